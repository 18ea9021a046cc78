/-
  A part of the proof of the claim: walks over the program's functions and the plain laws that these need. No condition of its own.
-/
import Derived.Test.YtmdaiceacfgkpaaGreatDoorYLinesJoinCardPart2
import Derived.Test.YtmdaiceacfgkpaaGreatDoorYLinesJoinCardPart1
import Derived.Test.YtmdaiceacfgkpaaGreatDoorFvPart10
import Derived.Test.YtmdaiceacfgkpaaGreatDoorFvPart9
import Derived.Test.YtmdaiceacfgkpaaGreatDoorFvPart6
/- Lines put together: the small functions of JoinLines. -/
namespace Go.Fv.Y
open Go Go.Proofs
set_option linter.unusedSimpArgs false
set_option linter.unusedVariables false
set_option linter.unnecessarySimpa false
set_option maxRecDepth 8000

def nlIn (s : Bytes) : Bool := decide (0 ≤ Lib.index s [10])
theorem strContains_ok (s t : Bytes) (hs : s.length ≤ 1048576) : FnOk Tryz.prog 30 [.str s, .str t] (.bool (decide (0 ≤ Lib.index s t))) [] := by
  have k := index_ok s t hs
  refine FnOk.of_vc Tryz.func30 rfl (by decide) (by simp [Tryz.f30]) [.tmp 4] rfl fun w0 T0 _ => ?_
  simp only [Tryz.f30, argEnv]
  (repeat' first | with_reducible (first | intro _ | refine rc ?_ | refine rl ?_ | refine rh ?_ | refine rt ?_ | refine rf ?_ | refine rs ?_ | refine And.intro ?_ ?_) | omega | simp (maxSteps := 1000000) only [go_sem, simprocAttr, ↓reduceIte])
  refine VcCall.k (k) ?_
  (repeat' first | with_reducible (first | intro _ | refine rc ?_ | refine rl ?_ | refine rh ?_ | refine rt ?_ | refine rf ?_ | refine rs ?_ | refine And.intro ?_ ?_) | omega | simp (maxSteps := 1000000) only [go_sem, simprocAttr, ↓reduceIte])
  refine Ret.auto 0 ?_ rfl ?_ <;> simp only [go_sem, reduceCtorEq, reduceIte, Nat.reduceEqDiff, Nat.reduceLT, Nat.reduceLeDiff, Int.natCast_succ, Post]
theorem byteInts_get {b : Bytes} {i : Nat} (h : i < b.length) : (byteInts b).getD i 0 = ((b.getD i 0).toNat : Int) := by
  unfold byteInts
  rw [List.getD_eq_getElem?_getD, List.getElem?_map, List.getElem?_eq_getElem h, getD_lt h]; rfl
theorem lfirst_le (b : Bytes) : ∀ i f, i ≤ b.length → f ≤ b.length → lfirst b i f ≤ b.length
  | 0, f, hi, hf => hf
  | i + 1, f, hi, hf => by
    unfold lfirst
    split
    · apply lfirst_le b i _ (by omega)
      split
      · omega
      · exact hf
    · exact hf
set_option maxHeartbeats 2000000 in
theorem lastRow_ok (b : Bytes) (hb : b.length ≤ 1000000000000) : FnOk Tryz.prog 34 [.ro (.ints .u8 (byteInts b))] (.str (lrow b)) [] := by
  have hbl := byteInts_len b
  have hF := lfirst_le b b.length b.length (Nat.le_refl _) (Nat.le_refl _)
  have hE : ((List.take (b.length - lfirst b b.length b.length) (List.drop (lfirst b b.length b.length) (byteInts b))).map fun n => UInt8.ofNat n.toNat) = lrow b := by
    have := bytesOf_byteInts (b.drop (lfirst b b.length b.length))
    unfold bytesOf byteInts at this
    rw [List.take_of_length_le (by rw [List.length_drop]; omega)]
    unfold byteInts
    rw [← List.map_drop]
    exact this
  refine FnOk.of_vc Tryz.func34 rfl (by decide) (by simp [Tryz.f34]) [.tmp 2] rfl fun w0 T0 _ => ?_
  simp only [Tryz.f34, argEnv]
  generalize hG : lfirst b b.length b.length = F at *
  (repeat' first | with_reducible (first | intro _ | refine rc ?_ | refine rl ?_ | refine rh ?_ | refine rt ?_ | refine rf ?_ | refine rs ?_ | refine And.intro ?_ ?_) | omega | simp (maxSteps := 1000000) only [go_sem, simprocAttr, ↓reduceIte, hbl])
  refine VcLoop.intro (fun x : Nat × Nat => ⟨40, [(0, .ro (.ints .u8 (byteInts b))), (3, .int .i64 x.2), (4, .int .i64 x.1)], [], 0⟩) (fun x => x.1 ≤ b.length ∧ x.2 ≤ b.length ∧ lfirst b x.1 x.2 = F) (fun x => x.1) (b.length, b.length) ?_ ⟨Nat.le_refl _, Nat.le_refl _, hG⟩ fun x hx => ?_
  · refine Ent.auto0 rfl ?_ ?_ <;> simp only [go_sem, reduceCtorEq, reduceIte, Nat.reduceEqDiff, Nat.reduceLT, Nat.reduceLeDiff, Int.natCast_succ]
  obtain ⟨i, f⟩ := x
  obtain ⟨hi, hf, hl⟩ := hx
  dsimp only at hi hf hl ⊢
  cases i with
  | zero =>
    have hl : f = F := hl
    subst hl
    (repeat' first | with_reducible (first | intro _ | refine rc ?_ | refine rl ?_ | refine rh ?_ | refine rt ?_ | refine rf ?_ | refine rs ?_ | refine And.intro ?_ ?_) | omega | simp (maxSteps := 1000000) only [go_sem, simprocAttr, ↓reduceIte, hbl])
    refine Ret.auto 0 ?_ rfl ?_ <;> simp only [go_sem, reduceCtorEq, reduceIte, Nat.reduceEqDiff, Nat.reduceLT, Nat.reduceLeDiff, Int.natCast_succ, Post, hE]
  | succ k =>
    have hk : k < b.length := by omega
    have hg := byteInts_get hk
    have hkk : (((k + 1 : Nat) : Int) - 1) = (k : Int) := by omega
    have hkt : ((k : Int)).toNat = k := Int.toNat_natCast k
    have kw := inWord_ok (b.getD k 0)
    have kl := letter_ok (b.getD k 0)
    unfold lfirst at hl
    generalize b.getD k 0 = c at *
    cases hw : inW c with
    | false =>
      rw [hw] at hl kw
      rw [if_neg (by simp)] at hl
      subst hl
      (repeat' first | with_reducible (first | intro _ | refine rc ?_ | refine rl ?_ | refine rh ?_ | refine rt ?_ | refine rf ?_ | refine rs ?_ | refine And.intro ?_ ?_) | omega | simp (maxSteps := 1000000) only [go_sem, simprocAttr, ↓reduceIte, hbl, hg, hkk, hkt])
      refine VcCall.k (kw) ?_
      (repeat' first | with_reducible (first | intro _ | refine rc ?_ | refine rl ?_ | refine rh ?_ | refine rt ?_ | refine rf ?_ | refine rs ?_ | refine And.intro ?_ ?_) | omega | simp (maxSteps := 1000000) only [go_sem, simprocAttr, ↓reduceIte, hbl, hg, hkk, hkt])
      refine Ret.auto 0 ?_ rfl ?_ <;> simp only [go_sem, reduceCtorEq, reduceIte, Nat.reduceEqDiff, Nat.reduceLT, Nat.reduceLeDiff, Int.natCast_succ, Post, hE]
    | true =>
      rw [hw] at hl kw
      by_cases h40 : b.length - f ≤ 40
      · rw [if_pos ⟨rfl, h40⟩] at hl
        cases hL : isL c with
        | true =>
          rw [hL] at hl kl
          rw [if_pos rfl] at hl
          (repeat' first | with_reducible (first | intro _ | refine rc ?_ | refine rl ?_ | refine rh ?_ | refine rt ?_ | refine rf ?_ | refine rs ?_ | refine And.intro ?_ ?_) | omega | simp (maxSteps := 1000000) only [go_sem, simprocAttr, ↓reduceIte, hbl, hg, hkk, hkt])
          refine VcCall.k (kw) ?_
          (repeat' first | with_reducible (first | intro _ | refine rc ?_ | refine rl ?_ | refine rh ?_ | refine rt ?_ | refine rf ?_ | refine rs ?_ | refine And.intro ?_ ?_) | omega | simp (maxSteps := 1000000) only [go_sem, simprocAttr, ↓reduceIte, hbl, hg, hkk, hkt])
          refine VcCall.k (kl) ?_
          (repeat' first | with_reducible (first | intro _ | refine rc ?_ | refine rl ?_ | refine rh ?_ | refine rt ?_ | refine rf ?_ | refine rs ?_ | refine And.intro ?_ ?_) | omega | simp (maxSteps := 1000000) only [go_sem, simprocAttr, ↓reduceIte, hbl, hg, hkk, hkt])
          refine ⟨(k, k), Ent.auto0 rfl ?_ ?_, ⟨by dsimp only; omega, by dsimp only; omega, hl⟩, by dsimp only; omega⟩ <;> simp only [go_sem, reduceCtorEq, reduceIte, Nat.reduceEqDiff, Nat.reduceLT, Nat.reduceLeDiff, Int.natCast_succ, hkk, Int.add_sub_cancel]
        | false =>
          rw [hL] at hl kl
          rw [if_neg (by simp)] at hl
          (repeat' first | with_reducible (first | intro _ | refine rc ?_ | refine rl ?_ | refine rh ?_ | refine rt ?_ | refine rf ?_ | refine rs ?_ | refine And.intro ?_ ?_) | omega | simp (maxSteps := 1000000) only [go_sem, simprocAttr, ↓reduceIte, hbl, hg, hkk, hkt])
          refine VcCall.k (kw) ?_
          (repeat' first | with_reducible (first | intro _ | refine rc ?_ | refine rl ?_ | refine rh ?_ | refine rt ?_ | refine rf ?_ | refine rs ?_ | refine And.intro ?_ ?_) | omega | simp (maxSteps := 1000000) only [go_sem, simprocAttr, ↓reduceIte, hbl, hg, hkk, hkt])
          refine VcCall.k (kl) ?_
          (repeat' first | with_reducible (first | intro _ | refine rc ?_ | refine rl ?_ | refine rh ?_ | refine rt ?_ | refine rf ?_ | refine rs ?_ | refine And.intro ?_ ?_) | omega | simp (maxSteps := 1000000) only [go_sem, simprocAttr, ↓reduceIte, hbl, hg, hkk, hkt])
          refine ⟨(k, f), Ent.auto0 rfl ?_ ?_, ⟨by dsimp only; omega, by dsimp only; omega, hl⟩, by dsimp only; omega⟩ <;> simp only [go_sem, reduceCtorEq, reduceIte, Nat.reduceEqDiff, Nat.reduceLT, Nat.reduceLeDiff, Int.natCast_succ, hkk, Int.add_sub_cancel]
      · rw [if_neg (fun h => h40 h.2)] at hl
        subst hl
        (repeat' first | with_reducible (first | intro _ | refine rc ?_ | refine rl ?_ | refine rh ?_ | refine rt ?_ | refine rf ?_ | refine rs ?_ | refine And.intro ?_ ?_) | omega | simp (maxSteps := 1000000) only [go_sem, simprocAttr, ↓reduceIte, hbl, hg, hkk, hkt])
        refine VcCall.k (kw) ?_
        (repeat' first | with_reducible (first | intro _ | refine rc ?_ | refine rl ?_ | refine rh ?_ | refine rt ?_ | refine rf ?_ | refine rs ?_ | refine And.intro ?_ ?_) | omega | simp (maxSteps := 1000000) only [go_sem, simprocAttr, ↓reduceIte, hbl, hg, hkk, hkt])
        refine Ret.auto 0 ?_ rfl ?_ <;> simp only [go_sem, reduceCtorEq, reduceIte, Nat.reduceEqDiff, Nat.reduceLT, Nat.reduceLeDiff, Int.natCast_succ, Post, hE]
theorem take_run {s : Bytes} {n : Nat} (hn : n ≤ s.length) (hr : ∀ j, j < n → inW (s.getD j 0) = true) (he : n < s.length → inW (s.getD n 0) = false) : s.takeWhile inW = s.take n := by
  have := run_at (s := s) n 0 n (by omega) (Nat.zero_le _) hn (fun j _ h => hr j h) he
  simpa [sub] using this.1
set_option maxHeartbeats 2000000 in
theorem firstRow_ok (s : Bytes) (hs : s.length ≤ 1000000000000) : FnOk Tryz.prog 35 [.str s] (.str (frow s)) [] := by
  refine FnOk.of_vc Tryz.func35 rfl (by decide) (by simp [Tryz.f35]) [.tmp 2] rfl fun w0 T0 _ => ?_
  simp only [Tryz.f35, argEnv]
  (repeat' first | with_reducible (first | intro _ | refine rc ?_ | refine rl ?_ | refine rh ?_ | refine rt ?_ | refine rf ?_ | refine rs ?_ | refine And.intro ?_ ?_) | omega | simp (maxSteps := 1000000) only [go_sem, simprocAttr, ↓reduceIte])
  refine VcLoop.intro (fun n : Nat => ⟨20, [(0, .str s), (3, .int .i64 n)], [], 0⟩) (fun n => n ≤ s.length ∧ ∀ j, j < n → inW (s.getD j 0) = true) (fun n => s.length - n) 0 ?_ ⟨Nat.zero_le _, fun j h => absurd h (Nat.not_lt_zero j)⟩ fun n hn => ?_
  · refine Ent.auto0 rfl ?_ ?_ <;> simp only [go_sem, reduceCtorEq, reduceIte, Nat.reduceEqDiff, Nat.reduceLT, Nat.reduceLeDiff, Int.natCast_succ]
  obtain ⟨hn, hr⟩ := hn
  have hend : (n < s.length → inW (s.getD n 0) = false) → FnFr Tryz.prog 84 [.str (s.take (n - 0)), .str [39]] (.str (frow s)) [] := fun he => by
    have := take_run hn hr he
    unfold frow
    rw [this]
    exact FnFr.of_ok (trimRight_ok (s.take n) (by simp; omega)) rfl rfl
  by_cases hlt : n < s.length
  · have kw := inWord_ok (s.getD n 0)
    cases hw : inW (s.getD n 0) with
    | false =>
      have kt := hend (fun _ => hw)
      rw [hw] at kw
      (repeat' first | with_reducible (first | intro _ | refine rc ?_ | refine rl ?_ | refine rh ?_ | refine rt ?_ | refine rf ?_ | refine rs ?_ | refine And.intro ?_ ?_) | omega | simp (maxSteps := 1000000) only [go_sem, simprocAttr, ↓reduceIte])
      refine VcCall.k (kw) ?_
      (repeat' first | with_reducible (first | intro _ | refine rc ?_ | refine rl ?_ | refine rh ?_ | refine rt ?_ | refine rf ?_ | refine rs ?_ | refine And.intro ?_ ?_) | omega | simp (maxSteps := 1000000) only [go_sem, simprocAttr, ↓reduceIte])
      refine VcCall.fr kt (by simp only [noIdR_ok, argOkL, argOk, allOk, argOkN, List.drop_zero, lk, reduceIte, reduceCtorEq, Nat.reduceEqDiff, Option.some.injEq, Item.row.injEq, Item.box.injEq, AV.ro.injEq, exists_eq_left, exists_and_left, exists_eq_left', exists_eq_right, and_assoc, and_true, true_and, List.cons.injEq, exists_eq', exists_eq]) 0 rfl (by simp [rowsB]) ?_
      (repeat' first | with_reducible (first | intro _ | refine rc ?_ | refine rl ?_ | refine rh ?_ | refine rt ?_ | refine rf ?_ | refine rs ?_ | refine And.intro ?_ ?_) | omega | simp (maxSteps := 1000000) only [go_sem, simprocAttr, ↓reduceIte])
      refine Ret.auto 0 ?_ rfl ?_ <;> simp only [go_sem, reduceCtorEq, reduceIte, Nat.reduceEqDiff, Nat.reduceLT, Nat.reduceLeDiff, Int.natCast_succ, Post]
    | true =>
      rw [hw] at kw
      (repeat' first | with_reducible (first | intro _ | refine rc ?_ | refine rl ?_ | refine rh ?_ | refine rt ?_ | refine rf ?_ | refine rs ?_ | refine And.intro ?_ ?_) | omega | simp (maxSteps := 1000000) only [go_sem, simprocAttr, ↓reduceIte])
      refine VcCall.k (kw) ?_
      (repeat' first | with_reducible (first | intro _ | refine rc ?_ | refine rl ?_ | refine rh ?_ | refine rt ?_ | refine rf ?_ | refine rs ?_ | refine And.intro ?_ ?_) | omega | simp (maxSteps := 1000000) only [go_sem, simprocAttr, ↓reduceIte])
      refine ⟨n + 1, Ent.auto0 rfl ?_ ?_, ⟨by omega, fun j hj => ?_⟩, by omega⟩
      · simp only [go_sem, reduceCtorEq, reduceIte, Nat.reduceEqDiff, Nat.reduceLT, Nat.reduceLeDiff, Int.natCast_succ]
      · simp only [go_sem, reduceCtorEq, reduceIte, Nat.reduceEqDiff, Nat.reduceLT, Nat.reduceLeDiff, Int.natCast_succ]
      · by_cases e : j = n
        · subst e; exact hw
        · exact hr j (by omega)
  · have kt := hend (fun h => absurd h hlt)
    (repeat' first | with_reducible (first | intro _ | refine rc ?_ | refine rl ?_ | refine rh ?_ | refine rt ?_ | refine rf ?_ | refine rs ?_ | refine And.intro ?_ ?_) | omega | simp (maxSteps := 1000000) only [go_sem, simprocAttr, ↓reduceIte])
    refine VcCall.fr kt (by simp only [noIdR_ok, argOkL, argOk, allOk, argOkN, List.drop_zero, lk, reduceIte, reduceCtorEq, Nat.reduceEqDiff, Option.some.injEq, Item.row.injEq, Item.box.injEq, AV.ro.injEq, exists_eq_left, exists_and_left, exists_eq_left', exists_eq_right, and_assoc, and_true, true_and, List.cons.injEq, exists_eq', exists_eq]) 0 rfl (by simp [rowsB]) ?_
    (repeat' first | with_reducible (first | intro _ | refine rc ?_ | refine rl ?_ | refine rh ?_ | refine rt ?_ | refine rf ?_ | refine rs ?_ | refine And.intro ?_ ?_) | omega | simp (maxSteps := 1000000) only [go_sem, simprocAttr, ↓reduceIte])
    refine Ret.auto 0 ?_ rfl ?_ <;> simp only [go_sem, reduceCtorEq, reduceIte, Nat.reduceEqDiff, Nat.reduceLT, Nat.reduceLeDiff, Int.natCast_succ, Post]
end Go.Fv.Y

/- words.mapped and small letters. -/
namespace Go.Fv.Y
open Go Go.Proofs
set_option linter.unusedSimpArgs false
set_option linter.unusedVariables false
set_option linter.unnecessarySimpa false
set_option maxRecDepth 8000

def mapAt (f : UInt8 → UInt8) (s : List UInt8) (i : Nat) : List Int := byteInts ((s.take i).map f ++ s.drop i)
theorem mapAt_zero (f : UInt8 → UInt8) (s : List UInt8) : mapAt f s 0 = byteInts s := by simp [mapAt]
theorem mapAt_end (f : UInt8 → UInt8) (s : List UInt8) : bytesOf (mapAt f s s.length) = s.map f := by
  unfold mapAt
  rw [bytesOf_byteInts]; simp
theorem mapAt_len (f : UInt8 → UInt8) (s : List UInt8) (i : Nat) : (mapAt f s i).length = s.length := by
  simp [mapAt, byteInts]; omega
theorem mapAt_get (f : UInt8 → UInt8) {s : List UInt8} {i : Nat} (h : i < s.length) : (mapAt f s i).getD i 0 = ((s.getD i 0).toNat : Int) := by
  unfold mapAt byteInts
  simp only [List.getD_eq_getElem?_getD, List.getElem?_map]
  rw [List.getElem?_append_right (by simp; omega)]
  have e : i - ((s.take i).map f).length = 0 := by simp; omega
  rw [e, List.getElem?_drop]
  simp [h]
theorem mapAt_step (f : UInt8 → UInt8) {s : List UInt8} {i : Nat} (h : i < s.length) : mapAt f s (i + 1) = (mapAt f s i).set i ((f (s.getD i 0)).toNat : Int) := by
  unfold mapAt
  have e1 : s.drop i = s.getD i 0 :: s.drop (i + 1) := by rw [List.drop_eq_getElem_cons h, getD_lt h]
  have e2 : s.take (i + 1) = s.take i ++ [s.getD i 0] := by rw [List.take_succ_eq_append_getElem h, getD_lt h]
  have hl : (byteInts ((s.take i).map f)).length = i := by simp [byteInts]; omega
  rw [e1, e2]
  unfold byteInts at *
  rw [List.map_append, List.map_append, List.map_append, List.map_append, List.set_append_right _ _ (by omega), hl, Nat.sub_self]
  simp
set_option maxHeartbeats 1000000 in
theorem mapped_ok (s : List UInt8) (F : Nat) (f : UInt8 → UInt8) (hf : ∀ c : UInt8, FnFr Tryz.prog F [.int .u8 c.toNat] (.int .u8 (f c).toNat) []) : FnOk Tryz.prog 97 [.str s, .fn F []] (.str (s.map f)) [] := by
  have h0 := mapAt_zero f s
  have hz := mapAt_end f s
  refine FnOk.of_vc Tryz.func97 rfl (by decide) (by simp [Tryz.f97]) [.tmp 4] rfl fun w0 T0 _ => ?_
  simp only [Tryz.f97, argEnv]
  (repeat' first | with_reducible (first | intro _ | refine rc ?_ | refine rl ?_ | refine rh ?_ | refine rt ?_ | refine rf ?_ | refine rs ?_ | refine And.intro ?_ ?_) | omega | simp (maxSteps := 1000000) only [go_sem, simprocAttr, ↓reduceIte, byteInts_len])
  refine VcLoop.intro (fun i : Nat => ⟨26, [(12, .int .i64 i), (11, .int .i64 s.length), (10, .own 0), (5, .own 0), (1, .fn F [])], [(0, .row 5 (.ints .u8 (mapAt f s i)))], 1⟩) (fun i => i ≤ s.length) (fun i => s.length - i) 0 ?_ (Nat.zero_le _) fun i hi => ?_
  · refine Ent.auto0 rfl ?_ ?_ <;> simp only [go_sem, reduceCtorEq, reduceIte, Nat.reduceEqDiff, Nat.reduceLT, Nat.reduceLeDiff, Int.natCast_succ, h0]
  by_cases hlt : i < s.length
  · have hg := mapAt_get f hlt
    have hst := mapAt_step f hlt
    have hl := mapAt_len f s i
    have hc2 := (s.getD i 0).toNat_lt
    have kf := hf (s.getD i 0)
    have hd2 := (f (s.getD i 0)).toNat_lt
    generalize f (s.getD i 0) = d at *
    generalize s.getD i 0 = c at *
    (repeat' first | with_reducible (first | intro _ | refine rc ?_ | refine rl ?_ | refine rh ?_ | refine rt ?_ | refine rf ?_ | refine rs ?_ | refine And.intro ?_ ?_) | omega | simp (maxSteps := 1000000) only [go_sem, simprocAttr, ↓reduceIte, Int.toNat_natCast, hg, hl])
    refine VcCall.fr kf (by simp only [noIdR_ok, argOkL, argOk, allOk, argOkN, List.drop_zero, lk, reduceIte, reduceCtorEq, Nat.reduceEqDiff, Option.some.injEq, Item.row.injEq, Item.box.injEq, AV.ro.injEq, exists_eq_left, exists_and_left, exists_eq_left', exists_eq_right, and_assoc, and_true, true_and, List.cons.injEq, exists_eq', exists_eq]) 0 rfl (by simp [rowsB]) ?_
    (repeat' first | with_reducible (first | intro _ | refine rc ?_ | refine rl ?_ | refine rh ?_ | refine rt ?_ | refine rf ?_ | refine rs ?_ | refine And.intro ?_ ?_) | omega | simp (maxSteps := 1000000) only [go_sem, simprocAttr, ↓reduceIte, Int.toNat_natCast, hg, hl])
    refine ⟨i + 1, Ent.auto0 rfl ?_ ?_, by omega, by omega⟩ <;> simp only [go_sem, reduceCtorEq, reduceIte, Nat.reduceEqDiff, Nat.reduceLT, Nat.reduceLeDiff, Int.natCast_succ, hst]
  · have e : i = s.length := by omega
    subst e
    (repeat' first | with_reducible (first | intro _ | refine rc ?_ | refine rl ?_ | refine rh ?_ | refine rt ?_ | refine rf ?_ | refine rs ?_ | refine And.intro ?_ ?_) | omega | simp (maxSteps := 1000000) only [go_sem, simprocAttr, ↓reduceIte, hz])
    refine Ret.auto 0 ?_ rfl ?_ <;> simp only [go_sem, reduceCtorEq, reduceIte, Nat.reduceEqDiff, Nat.reduceLT, Nat.reduceLeDiff, Int.natCast_succ, Post]
    all_goals exact hz
theorem small1W_ok (c : UInt8) : FnOk Tryz.prog 98 [.int .u8 c.toNat] (.int .u8 (smallB c).toNat) [] := by
  have h := smallB_int c
  have hc2 := c.toNat_lt
  refine FnOk.of_vc Tryz.func98 rfl (by decide) (by simp [Tryz.f98]) [.tmp 2] rfl fun w0 T0 _ => ?_
  simp only [Tryz.f98, argEnv]
  by_cases hc : 65 ≤ c.toNat ∧ c.toNat ≤ 90
  · rw [if_pos hc] at h
    (repeat' first | with_reducible (first | intro _ | refine rc ?_ | refine rl ?_ | refine rh ?_ | refine rt ?_ | refine rf ?_ | refine rs ?_ | refine And.intro ?_ ?_) | omega | simp (maxSteps := 1000000) only [go_sem, simprocAttr, ↓reduceIte])
    refine Ret.auto 0 ?_ rfl ?_ <;> simp only [go_sem, reduceCtorEq, reduceIte, Nat.reduceEqDiff, Nat.reduceLT, Nat.reduceLeDiff, Int.natCast_succ, Post, h]
  · rw [if_neg hc] at h
    (repeat' first | with_reducible (first | intro _ | refine rc ?_ | refine rl ?_ | refine rh ?_ | refine rt ?_ | refine rf ?_ | refine rs ?_ | refine And.intro ?_ ?_) | omega | simp (maxSteps := 1000000) only [go_sem, simprocAttr, ↓reduceIte])
    refine Ret.auto 0 ?_ rfl ?_ <;> simp only [go_sem, reduceCtorEq, reduceIte, Nat.reduceEqDiff, Nat.reduceLT, Nat.reduceLeDiff, Int.natCast_succ, Post, h]
theorem smallW_ok (s : List UInt8) : FnOk Tryz.prog 61 [.str s] (.str (smallL s)) [] := by
  have k := mapped_ok s 98 smallB fun c => FnFr.of_ok (small1W_ok c) rfl rfl
  rw [show s.map smallB = smallL s from rfl] at k
  refine FnOk.of_vc Tryz.func61 rfl (by decide) (by simp [Tryz.f61]) [.tmp 2] rfl fun w0 T0 _ => ?_
  simp only [Tryz.f61, argEnv]
  (repeat' first | with_reducible (first | intro _ | refine rc ?_ | refine rl ?_ | refine rh ?_ | refine rt ?_ | refine rf ?_ | refine rs ?_ | refine And.intro ?_ ?_) | omega | simp (maxSteps := 1000000) only [go_sem, simprocAttr, ↓reduceIte])
  refine VcCall.k (k) ?_
  (repeat' first | with_reducible (first | intro _ | refine rc ?_ | refine rl ?_ | refine rh ?_ | refine rt ?_ | refine rf ?_ | refine rs ?_ | refine And.intro ?_ ?_) | omega | simp (maxSteps := 1000000) only [go_sem, simprocAttr, ↓reduceIte])
  refine Ret.auto 0 ?_ rfl ?_ <;> simp only [go_sem, reduceCtorEq, reduceIte, Nat.reduceEqDiff, Nat.reduceLT, Nat.reduceLeDiff, Int.natCast_succ, Post]
set_option maxHeartbeats 1000000 in
set_option maxHeartbeats 1000000 in
theorem refSmall_ok (s : List UInt8) : FnOk Tryz.prog 42 [.str s] (.str (smallL s)) [] := by
  have h0 := smallAt_zero s
  have hz := smallAt_end s
  refine FnOk.of_vc Tryz.func42 rfl (by decide) (by simp [Tryz.f42]) [.tmp 2] rfl fun w0 T0 _ => ?_
  simp only [Tryz.f42, argEnv]
  (repeat' first | with_reducible (first | intro _ | refine rc ?_ | refine rl ?_ | refine rh ?_ | refine rt ?_ | refine rf ?_ | refine rs ?_ | refine And.intro ?_ ?_) | omega | simp (maxSteps := 1000000) only [go_sem, simprocAttr, ↓reduceIte, byteInts_len])
  refine VcLoop.intro (fun i : Nat => ⟨29, [(10, .int .i64 i), (9, .int .i64 s.length), (8, .own 0), (3, .own 0)], [(0, .row 5 (.ints .u8 (smallAt s i)))], 1⟩) (fun i => i ≤ s.length) (fun i => s.length - i) 0 ?_ (Nat.zero_le _) fun i hi => ?_
  · refine Ent.auto0 rfl ?_ ?_ <;> simp only [go_sem, reduceCtorEq, reduceIte, Nat.reduceEqDiff, Nat.reduceLT, Nat.reduceLeDiff, Int.natCast_succ, h0]
  by_cases hlt : i < s.length
  · have hg := smallAt_get hlt
    have hst := smallAt_step hlt
    have hl := smallAt_len s i
    have hc2 := (s.getD i 0).toNat_lt
    generalize s.getD i 0 = c at *
    by_cases hc : 65 ≤ c.toNat ∧ c.toNat ≤ 90
    · rw [if_pos hc] at hst
      have e1 : (c.toNat : Int) + 97 - 65 = (c.toNat : Int) + 32 := by omega
      (repeat' first | with_reducible (first | intro _ | refine rc ?_ | refine rl ?_ | refine rh ?_ | refine rt ?_ | refine rf ?_ | refine rs ?_ | refine And.intro ?_ ?_) | omega | simp (maxSteps := 1000000) only [go_sem, simprocAttr, ↓reduceIte, Int.toNat_natCast, hg, hl, e1])
      refine ⟨i + 1, Ent.auto0 rfl ?_ ?_, by omega, by omega⟩ <;> simp only [go_sem, reduceCtorEq, reduceIte, Nat.reduceEqDiff, Nat.reduceLT, Nat.reduceLeDiff, Int.natCast_succ, hst]
    · rw [if_neg hc] at hst
      (repeat' first | with_reducible (first | intro _ | refine rc ?_ | refine rl ?_ | refine rh ?_ | refine rt ?_ | refine rf ?_ | refine rs ?_ | refine And.intro ?_ ?_) | omega | simp (maxSteps := 1000000) only [go_sem, simprocAttr, ↓reduceIte, Int.toNat_natCast, hg, hl])
      refine ⟨i + 1, Ent.auto0 rfl ?_ ?_, by omega, by omega⟩ <;> simp only [go_sem, reduceCtorEq, reduceIte, Nat.reduceEqDiff, Nat.reduceLT, Nat.reduceLeDiff, Int.natCast_succ, hst]
  · have e : i = s.length := by omega
    subst e
    (repeat' first | with_reducible (first | intro _ | refine rc ?_ | refine rl ?_ | refine rh ?_ | refine rt ?_ | refine rf ?_ | refine rs ?_ | refine And.intro ?_ ?_) | omega | simp (maxSteps := 1000000) only [go_sem, simprocAttr, ↓reduceIte, hz])
    refine Ret.auto 0 ?_ rfl ?_ <;> simp only [go_sem, reduceCtorEq, reduceIte, Nat.reduceEqDiff, Nat.reduceLT, Nat.reduceLeDiff, Int.natCast_succ, Post]
    all_goals exact hz

end Go.Fv.Y

/- Dictionaries. Plain law. -/
namespace Go.Fv.Y
open Go
set_option linter.unusedSimpArgs false
set_option linter.unusedVariables false
set_option linter.unnecessarySimpa false

/-! ### What is wrong with a list -/
def wdE (seen : List Bytes) (w : Wd) : Int := if isWd w.t = false then 2 else if w.c < 1 ∨ 1000000000 < w.c then 3 else if w.t ∈ seen then 6 else 0
def wdEs : List Bytes → List Wd → Int
  | _, [] => 0
  | seen, w :: l => if wdE seen w = 0 then wdEs (seen ++ [w.t]) l else wdE seen w
def dictErr (l : List Wd) : Int := if 5000 < l.length then 4 else wdEs [] l
theorem wdE_zero {seen : List Bytes} {w : Wd} (h : wdE seen w = 0) : isWd w.t = true ∧ (1 ≤ w.c ∧ w.c ≤ 1000000000) ∧ w.t ∉ seen := by
  unfold wdE at h
  split at h
  · cases h
  · rename_i h1
    split at h
    · cases h
    · rename_i h2
      split at h
      · cases h
      · rename_i h3
        exact ⟨by simpa using h1, by omega, h3⟩
structure GoodD (l : List Wd) : Prop where
  len : l.length ≤ 5000
  wd : ∀ w, w ∈ l → isWd w.t = true ∧ (1 ≤ w.c ∧ w.c ≤ 1000000000)
  nd : (l.map Wd.t).Nodup
theorem wdEs_zero : ∀ {l : List Wd} {seen : List Bytes}, seen.Nodup → wdEs seen l = 0 → (∀ w, w ∈ l → isWd w.t = true ∧ (1 ≤ w.c ∧ w.c ≤ 1000000000)) ∧ (seen ++ l.map Wd.t).Nodup
  | [], seen, hn, _ => ⟨fun w h => (by cases h), by simpa using hn⟩
  | w :: l, seen, hn, h => by
    unfold wdEs at h
    split at h
    · rename_i h0
      obtain ⟨h1, h2, h3⟩ := wdE_zero h0
      have hn' : (seen ++ [w.t]).Nodup := List.nodup_append.2 ⟨hn, by simp, fun a ha b hb e => h3 (by rw [List.mem_singleton.1 hb] at e; rw [← e]; exact ha)⟩
      obtain ⟨i1, i2⟩ := wdEs_zero hn' h
      refine ⟨fun x hx => ?_, by rw [List.append_assoc] at i2; exact i2⟩
      rcases List.mem_cons.1 hx with rfl | hx
      · exact ⟨h1, h2⟩
      · exact i1 x hx
    · rename_i h0
      exact absurd h h0
theorem dictErr_zero {l : List Wd} (h : dictErr l = 0) : GoodD l := by
  unfold dictErr at h
  split at h
  · cases h
  · rename_i h0
    obtain ⟨h1, h2⟩ := wdEs_zero List.nodup_nil h
    exact ⟨by omega, h1, by simpa using h2⟩
theorem wdEs_drop (l : List Wd) {i : Nat} (h : i < l.length) (s : List Bytes) : wdEs s (l.drop i) = if wdE s (l.getD i Wd.zero) = 0 then wdEs (s ++ [(l.getD i Wd.zero).t]) (l.drop (i + 1)) else wdE s (l.getD i Wd.zero) := by
  rw [List.drop_eq_getElem_cons h, wdEs, getD_lt h]
/-! ### Counts -/
def cntD (l : List Wd) (x : Bytes) : Int := match l.find? fun w => decide (w.t = x) with | some w => w.c | none => 0
theorem cntD_nil (x : Bytes) : cntD [] x = 0 := rfl
theorem cntD_cons (w : Wd) (l : List Wd) (x : Bytes) : cntD (w :: l) x = if w.t = x then w.c else cntD l x := by
  unfold cntD
  rw [List.find?_cons]
  by_cases h : w.t = x
  · rw [if_pos h]; simp [h]
  · rw [if_neg h]; simp [h]
theorem cntD_mem {l : List Wd} (hn : (l.map Wd.t).Nodup) {w : Wd} (hw : w ∈ l) : cntD l w.t = w.c := by
  induction l with
  | nil => cases hw
  | cons v l ih =>
    rw [cntD_cons]
    obtain ⟨h1, h2⟩ := List.nodup_cons.1 hn
    rcases List.mem_cons.1 hw with rfl | hw
    · rw [if_pos rfl]
    · rw [if_neg (fun e => h1 (List.mem_map.2 ⟨w, hw, e.symm⟩))]
      exact ih h2 hw
theorem cntD_none {l : List Wd} {x : Bytes} (h : x ∉ l.map Wd.t) : cntD l x = 0 := by
  induction l with
  | nil => rfl
  | cons v l ih =>
    simp only [List.map_cons, List.mem_cons, not_or] at h
    rw [cntD_cons, if_neg (fun e => h.1 e.symm)]
    exact ih h.2
theorem cntD_perm {l l' : List Wd} (hp : l'.Perm l) (hn : (l.map Wd.t).Nodup) (x : Bytes) : cntD l' x = cntD l x := by
  by_cases h : x ∈ l.map Wd.t
  · obtain ⟨w, hw, rfl⟩ := List.mem_map.1 h
    rw [cntD_mem hn hw, cntD_mem ((hp.map Wd.t).nodup_iff.2 hn) (hp.mem_iff.2 hw)]
  · rw [cntD_none h, cntD_none fun h2 => h ((hp.map Wd.t).mem_iff.1 h2)]
/-- The map of a list. -/
def dKs (l : List Wd) : List AV := (l.map Wd.t).map .str
def dVs (l : List Wd) : List AV := (l.map Wd.c).map (.int .i64)
theorem getI_d (l : List Wd) (x : Bytes) : getI (dKs l) (dVs l) (.str x) = cntD l x := by
  unfold getI getV dKs dVs
  rw [keyIdx_strs]
  induction l with
  | nil => rfl
  | cons w l ih =>
    rw [cntD_cons, List.map_cons, ixOf]
    by_cases h : w.t = x
    · rw [if_pos h, if_pos h]; rfl
    · rw [if_neg h, if_neg h, ← ih]
      cases ixOf (l.map Wd.t) x with
      | none => rfl
      | some j => simp
theorem updKs_d {l : List Wd} {w : Wd} (h : w.t ∉ l.map Wd.t) : updKs (dKs l) (.str w.t) = dKs (l ++ [w]) := by
  unfold dKs; rw [updKs_strs]; unfold insE; rw [if_neg h]; simp
theorem updVs_d {l : List Wd} {w : Wd} (h : w.t ∉ l.map Wd.t) : updVs (dKs l) (dVs l) (.str w.t) (.int .i64 w.c) = dVs (l ++ [w]) := by
  unfold updVs dKs
  rw [keyIdx_strs, ixOf_none.2 h]
  simp [dVs]
theorem isI_d (l : List Wd) : (dVs l).all (isI .i64) = true := by simp [dVs, isI]
/-! ### Words in order -/
def wsD (l : List Wd) : List Bytes := sortS (l.map Wd.t)
end Go.Fv.Y

/- The reference's IsWord. -/
namespace Go.Fv.Y
open Go Go.Proofs
set_option linter.unusedSimpArgs false
set_option linter.unusedVariables false
set_option linter.unnecessarySimpa false
set_option maxRecDepth 8000

set_option maxHeartbeats 2000000 in
theorem refIsWordA_ok (s : List UInt8) : FnOk Tryz.prog 85 [.str s] (.bool (isWd s)) [] := by
  refine FnOk.of_vc Tryz.func85 rfl (by decide) (by simp [Tryz.f85]) [.tmp 2] rfl fun w0 T0 _ => ?_
  simp only [Tryz.f85, argEnv]
  by_cases h0 : s = []
  · (repeat' first | with_reducible (first | intro _ | refine rc ?_ | refine rl ?_ | refine rh ?_ | refine rt ?_ | refine rf ?_ | refine rs ?_ | refine And.intro ?_ ?_) | omega | simp (maxSteps := 1000000) only [go_sem, simprocAttr, ↓reduceIte, h0])
    refine Ret.auto 0 ?_ rfl ?_ <;> simp only [go_sem, reduceCtorEq, reduceIte, Nat.reduceEqDiff, Nat.reduceLT, Nat.reduceLeDiff, Int.natCast_succ, Post, isWd_nil]
  · by_cases h1 : 40 < (s.length : Int)
    · (repeat' first | with_reducible (first | intro _ | refine rc ?_ | refine rl ?_ | refine rh ?_ | refine rt ?_ | refine rf ?_ | refine rs ?_ | refine And.intro ?_ ?_) | omega | simp (maxSteps := 1000000) only [go_sem, simprocAttr, ↓reduceIte, h0, h1])
      refine Ret.auto 0 ?_ rfl ?_ <;> simp only [go_sem, reduceCtorEq, reduceIte, Nat.reduceEqDiff, Nat.reduceLT, Nat.reduceLeDiff, Int.natCast_succ, Post, isWd_long h1]
    · have hp : 0 < s.length := List.length_pos_iff.2 h0
      have hp2 : (0 : Int) < s.length := by omega
      have k := isLetter_ok (s.getD 0 0)
      have k2 := isLetter_ok (s.getD (s.length - 1) 0)
      have e := isWd_mid h0 h1
      have et : ((s.length : Int) - 1).toNat = s.length - 1 := by omega
      (repeat' first | with_reducible (first | intro _ | refine rc ?_ | refine rl ?_ | refine rh ?_ | refine rt ?_ | refine rf ?_ | refine rs ?_ | refine And.intro ?_ ?_) | omega | simp (maxSteps := 1000000) only [go_sem, simprocAttr, ↓reduceIte, h0, h1, hp2])
      refine VcCall.k k ?_
      cases hL : isL (s.getD 0 0) with
      | false =>
        (repeat' first | with_reducible (first | intro _ | refine rc ?_ | refine rl ?_ | refine rh ?_ | refine rt ?_ | refine rf ?_ | refine rs ?_ | refine And.intro ?_ ?_) | omega | simp (maxSteps := 1000000) only [go_sem, simprocAttr, ↓reduceIte, hL])
        refine Ret.auto 0 ?_ rfl ?_ <;> simp only [go_sem, reduceCtorEq, reduceIte, Nat.reduceEqDiff, Nat.reduceLT, Nat.reduceLeDiff, Int.natCast_succ, Post, e, hL, Bool.false_and]
      | true =>
        (repeat' first | with_reducible (first | intro _ | refine rc ?_ | refine rl ?_ | refine rh ?_ | refine rt ?_ | refine rf ?_ | refine rs ?_ | refine And.intro ?_ ?_) | omega | simp (maxSteps := 1000000) only [go_sem, simprocAttr, ↓reduceIte, hL, et])
        refine VcCall.k k2 ?_
        cases hL2 : isL (s.getD (s.length - 1) 0) with
        | false =>
          (repeat' first | with_reducible (first | intro _ | refine rc ?_ | refine rl ?_ | refine rh ?_ | refine rt ?_ | refine rf ?_ | refine rs ?_ | refine And.intro ?_ ?_) | omega | simp (maxSteps := 1000000) only [go_sem, simprocAttr, ↓reduceIte, hL2])
          refine Ret.auto 0 ?_ rfl ?_ <;> simp only [go_sem, reduceCtorEq, reduceIte, Nat.reduceEqDiff, Nat.reduceLT, Nat.reduceLeDiff, Int.natCast_succ, Post, e, hL, hL2, Bool.false_and, Bool.and_false]
        | true =>
          (repeat' first | with_reducible (first | intro _ | refine rc ?_ | refine rl ?_ | refine rh ?_ | refine rt ?_ | refine rf ?_ | refine rs ?_ | refine And.intro ?_ ?_) | omega | simp (maxSteps := 1000000) only [go_sem, simprocAttr, ↓reduceIte, hL2])
          refine VcLoop.intro (fun i : Nat => ⟨43, [(28, .int .i64 i), (27, .int .i64 s.length), (0, .str s)], [], 0⟩) (fun i => i ≤ s.length ∧ ∀ j, j < i → inW (s.getD j 0) = true) (fun i => s.length - i) 0 ?_ ⟨Nat.zero_le _, fun j hj => by omega⟩ fun i hi => ?_
          · refine Ent.auto0 rfl ?_ ?_ <;> simp only [go_sem, reduceCtorEq, reduceIte, Nat.reduceEqDiff, Nat.reduceLT, Nat.reduceLeDiff, Int.natCast_succ]
          obtain ⟨hi, ha⟩ := hi
          have k3 := isLetter_ok (s.getD i 0)
          have hiw := inW_eq (s.getD i 0)
          (repeat' first | with_reducible (first | intro _ | refine rc ?_ | refine rl ?_ | refine rh ?_ | refine rt ?_ | refine rf ?_ | refine rs ?_ | refine And.intro ?_ ?_) | omega | simp (maxSteps := 1000000) only [go_sem, simprocAttr, ↓reduceIte, Int.toNat_natCast])
          · refine VcCall.k k3 ?_
            cases hW : isL (s.getD i 0) with
            | true =>
              rw [hW, Bool.true_or] at hiw
              (repeat' first | with_reducible (first | intro _ | refine rc ?_ | refine rl ?_ | refine rh ?_ | refine rt ?_ | refine rf ?_ | refine rs ?_ | refine And.intro ?_ ?_) | omega | simp (maxSteps := 1000000) only [go_sem, simprocAttr, ↓reduceIte, hW])
              refine ⟨i + 1, Ent.auto0 rfl ?_ ?_, ⟨by omega, fun j hj => ?_⟩, by omega⟩
              · simp only [go_sem, reduceCtorEq, reduceIte, Nat.reduceEqDiff, Nat.reduceLT, Nat.reduceLeDiff, Int.natCast_succ]
              · simp only [go_sem, reduceCtorEq, reduceIte, Nat.reduceEqDiff, Nat.reduceLT, Nat.reduceLeDiff, Int.natCast_succ]
              · by_cases hji : j = i
                · rw [hji]; exact hiw
                · exact ha j (by omega)
            | false =>
              rw [hW, Bool.false_or] at hiw
              (repeat' first | with_reducible (first | intro _ | refine rc ?_ | refine rl ?_ | refine rh ?_ | refine rt ?_ | refine rf ?_ | refine rs ?_ | refine And.intro ?_ ?_) | omega | simp (maxSteps := 1000000) only [go_sem, simprocAttr, ↓reduceIte, hW])
              · rename_i h39
                rw [decide_eq_false h39] at hiw
                have hf := all_not (by omega) hiw
                refine Ret.auto 0 ?_ rfl ?_ <;> simp only [go_sem, reduceCtorEq, reduceIte, Nat.reduceEqDiff, Nat.reduceLT, Nat.reduceLeDiff, Int.natCast_succ, Post, e, hf, Bool.and_false]
              · rename_i h39
                rw [decide_eq_true (Decidable.of_not_not h39)] at hiw
                refine ⟨i + 1, Ent.auto0 rfl ?_ ?_, ⟨by omega, fun j hj => ?_⟩, by omega⟩
                · simp only [go_sem, reduceCtorEq, reduceIte, Nat.reduceEqDiff, Nat.reduceLT, Nat.reduceLeDiff, Int.natCast_succ]
                · simp only [go_sem, reduceCtorEq, reduceIte, Nat.reduceEqDiff, Nat.reduceLT, Nat.reduceLeDiff, Int.natCast_succ]
                · by_cases hji : j = i
                  · rw [hji]; exact hiw
                  · exact ha j (by omega)
          · have hf := all_of fun j hj => ha j (by omega)
            refine Ret.auto 0 ?_ rfl ?_ <;> simp only [go_sem, reduceCtorEq, reduceIte, Nat.reduceEqDiff, Nat.reduceLT, Nat.reduceLeDiff, Int.natCast_succ, Post, e, hL, hL2, hf, Bool.and_true]
end Go.Fv.Y

/- strings.HasPrefix. -/
namespace Go.Fv.Y
open Go Go.Proofs
set_option linter.unusedSimpArgs false
set_option linter.unusedVariables false
set_option linter.unnecessarySimpa false
set_option maxRecDepth 8000

end Go.Fv.Y

/- Dictionaries: the walks of Has, Count, Begin and their references. -/
namespace Go.Fv.Y
open Go Go.Proofs
set_option linter.unusedSimpArgs false
set_option linter.unusedVariables false
set_option linter.unnecessarySimpa false
set_option maxRecDepth 8000

theorem keysT_d {P : Program} {kt : TypeId} (h : P.underlying kt = some .string) (l : List Wd) : KeysT P kt (dKs l) := KeysT_map (fun n => KeyT.str h n) _
theorem hasD_ok (l : List Wd) (ws : List Bytes) (x : Bytes) : FnOk Tryz.prog 28 [.cell [.mp (dKs l) (dVs l), .ro (.strs ws)], .str x] (.bool (decide (0 < cntD l x))) [] := by
  have e1 := getI_d l x
  have e4 := isI_d l
  have e5 : KeysT Tryz.prog 9 (dKs l) := keysT_d (by kernel_rfl) _
  refine FnOk.of_vc Tryz.func28 rfl (by decide) (by simp [Tryz.f28]) [.tmp 4] rfl fun w0 T0 _ => ?_
  simp only [Tryz.f28, argEnv]
  (repeat' first | with_reducible (first | intro _ | refine rc ?_ | refine rl ?_ | refine rh ?_ | refine rt ?_ | refine rf ?_ | refine rs ?_ | refine And.intro ?_ ?_) | omega | simp (maxSteps := 1000000) only [go_sem, simprocAttr, ↓reduceIte, e1, e4, e5])
  refine Ret.auto 0 ?_ rfl ?_ <;> simp only [go_sem, reduceCtorEq, reduceIte, Nat.reduceEqDiff, Nat.reduceLT, Nat.reduceLeDiff, Int.natCast_succ, Post]
theorem cntD_drop (l : List Wd) {i : Nat} (h : i < l.length) (x : Bytes) : cntD (l.drop i) x = if (l.getD i Wd.zero).t = x then (l.getD i Wd.zero).c else cntD (l.drop (i + 1)) x := by
  rw [List.drop_eq_getElem_cons h, cntD_cons, getD_lt h]
set_option maxHeartbeats 1000000 in
theorem refCountD_ok (l : List Wd) (x : Bytes) : FnOk Tryz.prog 41 [.cell [.ro (wdR l)], .str x] (.int .i64 (cntD l x)) [] := by
  refine FnOk.of_vc Tryz.func41 rfl (by decide) (by simp [Tryz.f41]) [.tmp 4] rfl fun w0 T0 _ => ?_
  simp only [Tryz.f41, argEnv]
  (repeat' first | with_reducible (first | intro _ | refine rc ?_ | refine rl ?_ | refine rh ?_ | refine rt ?_ | refine rf ?_ | refine rs ?_ | refine And.intro ?_ ?_) | omega | simp (maxSteps := 1000000) only [go_sem, simprocAttr, ↓reduceIte, List.length_map])
  refine VcLoop.intro (fun i : Nat => ⟨23, [(12, .int .i64 i), (11, .int .i64 l.length), (10, .ro (wdR l)), (1, .str x)], [], 0⟩) (fun i => i ≤ l.length ∧ cntD (l.drop i) x = cntD l x) (fun i => l.length - i) 0 ?_ ⟨Nat.zero_le _, by rw [List.drop_zero]⟩ fun i hi => ?_
  · refine Ent.auto0 rfl ?_ ?_ <;> simp only [go_sem, reduceCtorEq, reduceIte, Nat.reduceEqDiff, Nat.reduceLT, Nat.reduceLeDiff, Int.natCast_succ]
  obtain ⟨hi, hc⟩ := hi
  by_cases hlt : i < l.length
  · have he := wd_elem l hlt
    rw [cntD_drop l hlt] at hc
    generalize l.getD i Wd.zero = y at *
    obtain ⟨yt, yc⟩ := y
    dsimp only at he hc
    by_cases hx : yt = x
    · rw [if_pos hx] at hc
      subst hx
      (repeat' first | with_reducible (first | intro _ | refine rc ?_ | refine rl ?_ | refine rh ?_ | refine rt ?_ | refine rf ?_ | refine rs ?_ | refine And.intro ?_ ?_) | omega | simp (maxSteps := 1000000) only [go_sem, simprocAttr, ↓reduceIte, elemA, he, List.length_map])
      refine Ret.auto 0 ?_ rfl ?_ <;> simp only [go_sem, reduceCtorEq, reduceIte, Nat.reduceEqDiff, Nat.reduceLT, Nat.reduceLeDiff, Int.natCast_succ, Post, hc]
    · rw [if_neg hx] at hc
      (repeat' first | with_reducible (first | intro _ | refine rc ?_ | refine rl ?_ | refine rh ?_ | refine rt ?_ | refine rf ?_ | refine rs ?_ | refine And.intro ?_ ?_) | omega | simp (maxSteps := 1000000) only [go_sem, simprocAttr, ↓reduceIte, elemA, he, hx, List.length_map])
      refine ⟨i + 1, Ent.auto0 rfl ?_ ?_, ⟨by omega, hc⟩, by omega⟩ <;> simp only [go_sem, reduceCtorEq, reduceIte, Nat.reduceEqDiff, Nat.reduceLT, Nat.reduceLeDiff, Int.natCast_succ]
  · have e : i = l.length := by omega
    subst e
    rw [List.drop_length, cntD_nil] at hc
    (repeat' first | with_reducible (first | intro _ | refine rc ?_ | refine rl ?_ | refine rh ?_ | refine rt ?_ | refine rf ?_ | refine rs ?_ | refine And.intro ?_ ?_) | omega | simp (maxSteps := 1000000) only [go_sem, simprocAttr, ↓reduceIte, List.length_map])
    refine Ret.auto 0 ?_ rfl ?_ <;> simp only [go_sem, reduceCtorEq, reduceIte, Nat.reduceEqDiff, Nat.reduceLT, Nat.reduceLeDiff, Int.natCast_succ, Post, ← hc]
end Go.Fv.Y

/- Lines put together: the small functions of JoinLines. -/
namespace Go.Fv.Y
open Go Go.Proofs
set_option linter.unusedSimpArgs false
set_option linter.unusedVariables false
set_option linter.unnecessarySimpa false
set_option maxRecDepth 8000

def hasW (l : List Wd) (w : Bytes) : Bool := decide (0 < cntD l w) || decide (0 < cntD l (smallL w))
theorem knows_ok (l : List Wd) (ws : List Bytes) (x : Bytes) : FnOk Tryz.prog 60 [.cell [.mp (dKs l) (dVs l), .ro (.strs ws)], .str x] (.bool (hasW l x)) [] := by
  have k1 := hasD_ok l ws x
  have k2 := smallW_ok x
  have k3 := hasD_ok l ws (smallL x)
  unfold hasW
  refine FnOk.of_vc Tryz.func60 rfl (by decide) (by simp [Tryz.f60]) [.tmp 4] rfl fun w0 T0 _ => ?_
  simp only [Tryz.f60, argEnv]
  by_cases h : 0 < cntD l x
  · rw [decide_eq_true h] at k1 ⊢
    (repeat' first | with_reducible (first | intro _ | refine rc ?_ | refine rl ?_ | refine rh ?_ | refine rt ?_ | refine rf ?_ | refine rs ?_ | refine And.intro ?_ ?_) | omega | simp (maxSteps := 1000000) only [go_sem, simprocAttr, ↓reduceIte])
    refine VcCall.k (k1) ?_
    (repeat' first | with_reducible (first | intro _ | refine rc ?_ | refine rl ?_ | refine rh ?_ | refine rt ?_ | refine rf ?_ | refine rs ?_ | refine And.intro ?_ ?_) | omega | simp (maxSteps := 1000000) only [go_sem, simprocAttr, ↓reduceIte])
    refine Ret.auto 0 ?_ rfl ?_ <;> simp only [go_sem, reduceCtorEq, reduceIte, Nat.reduceEqDiff, Nat.reduceLT, Nat.reduceLeDiff, Int.natCast_succ, Post, Bool.false_or, Bool.true_or, Bool.or_false, Bool.or_true]
  · rw [decide_eq_false h] at k1 ⊢
    (repeat' first | with_reducible (first | intro _ | refine rc ?_ | refine rl ?_ | refine rh ?_ | refine rt ?_ | refine rf ?_ | refine rs ?_ | refine And.intro ?_ ?_) | omega | simp (maxSteps := 1000000) only [go_sem, simprocAttr, ↓reduceIte])
    refine VcCall.k (k1) ?_
    (repeat' first | with_reducible (first | intro _ | refine rc ?_ | refine rl ?_ | refine rh ?_ | refine rt ?_ | refine rf ?_ | refine rs ?_ | refine And.intro ?_ ?_) | omega | simp (maxSteps := 1000000) only [go_sem, simprocAttr, ↓reduceIte])
    refine VcCall.k (k2) ?_
    (repeat' first | with_reducible (first | intro _ | refine rc ?_ | refine rl ?_ | refine rh ?_ | refine rt ?_ | refine rf ?_ | refine rs ?_ | refine And.intro ?_ ?_) | omega | simp (maxSteps := 1000000) only [go_sem, simprocAttr, ↓reduceIte])
    refine VcCall.k (k3) ?_
    (repeat' first | with_reducible (first | intro _ | refine rc ?_ | refine rl ?_ | refine rh ?_ | refine rt ?_ | refine rf ?_ | refine rs ?_ | refine And.intro ?_ ?_) | omega | simp (maxSteps := 1000000) only [go_sem, simprocAttr, ↓reduceIte])
    refine Ret.auto 0 ?_ rfl ?_ <;> simp only [go_sem, reduceCtorEq, reduceIte, Nat.reduceEqDiff, Nat.reduceLT, Nat.reduceLeDiff, Int.natCast_succ, Post, Bool.false_or, Bool.true_or, Bool.or_false, Bool.or_true]
set_option maxHeartbeats 4000000 in
theorem hyphenless_ok (l : List Wd) (ws : List Bytes) (a b : Bytes) (hab : a.length + b.length ≤ 1000000000000) : FnOk Tryz.prog 33 [.cell [.mp (dKs l) (dVs l), .ro (.strs ws)], .str a, .str b] (.bool (goes (hasW l) a b)) [] := by
  have ka := isWordA_ok a
  have kb := isWordA_ok b
  have k1 := knows_ok l ws (a ++ b)
  have k2 := knows_ok l ws a
  have k3 := knows_ok l ws b
  unfold goes
  generalize hasW l (a ++ b) = p1 at *
  generalize hasW l a = p2 at *
  generalize hasW l b = p3 at *
  generalize isWd a = q1 at *
  generalize isWd b = q2 at *
  refine FnOk.of_vc Tryz.func33 rfl (by decide) (by simp [Tryz.f33]) [.tmp 6] rfl fun w0 T0 _ => ?_
  simp only [Tryz.f33, argEnv]
  (repeat' first | with_reducible (first | intro _ | refine rc ?_ | refine rl ?_ | refine rh ?_ | refine rt ?_ | refine rf ?_ | refine rs ?_ | refine And.intro ?_ ?_) | omega | simp (maxSteps := 1000000) only [go_sem, simprocAttr, ↓reduceIte])
  refine VcCall.k (ka) ?_
  (repeat' first | with_reducible (first | intro _ | refine rc ?_ | refine rl ?_ | refine rh ?_ | refine rt ?_ | refine rf ?_ | refine rs ?_ | refine And.intro ?_ ?_) | omega | simp (maxSteps := 1000000) only [go_sem, simprocAttr, ↓reduceIte])
  refine VcCall.k (kb) ?_
  cases q1 <;> cases q2
  · (repeat' first | with_reducible (first | intro _ | refine rc ?_ | refine rl ?_ | refine rh ?_ | refine rt ?_ | refine rf ?_ | refine rs ?_ | refine And.intro ?_ ?_) | omega | simp (maxSteps := 1000000) only [go_sem, simprocAttr, ↓reduceIte])
    refine Ret.auto 0 ?_ rfl ?_ <;> simp only [go_sem, reduceCtorEq, reduceIte, Nat.reduceEqDiff, Nat.reduceLT, Nat.reduceLeDiff, Int.natCast_succ, Post, Bool.false_or, Bool.true_or, Bool.or_false, Bool.or_true]
  · (repeat' first | with_reducible (first | intro _ | refine rc ?_ | refine rl ?_ | refine rh ?_ | refine rt ?_ | refine rf ?_ | refine rs ?_ | refine And.intro ?_ ?_) | omega | simp (maxSteps := 1000000) only [go_sem, simprocAttr, ↓reduceIte])
    refine VcCall.k (k3) ?_
    (repeat' first | with_reducible (first | intro _ | refine rc ?_ | refine rl ?_ | refine rh ?_ | refine rt ?_ | refine rf ?_ | refine rs ?_ | refine And.intro ?_ ?_) | omega | simp (maxSteps := 1000000) only [go_sem, simprocAttr, ↓reduceIte])
    cases p3 <;> (refine Ret.auto 0 ?_ rfl ?_ <;> simp only [go_sem, reduceCtorEq, reduceIte, Nat.reduceEqDiff, Nat.reduceLT, Nat.reduceLeDiff, Int.natCast_succ, Post, Bool.false_or, Bool.true_or, Bool.or_false, Bool.or_true])
  · (repeat' first | with_reducible (first | intro _ | refine rc ?_ | refine rl ?_ | refine rh ?_ | refine rt ?_ | refine rf ?_ | refine rs ?_ | refine And.intro ?_ ?_) | omega | simp (maxSteps := 1000000) only [go_sem, simprocAttr, ↓reduceIte])
    refine VcCall.k (k2) ?_
    cases p2
    · (repeat' first | with_reducible (first | intro _ | refine rc ?_ | refine rl ?_ | refine rh ?_ | refine rt ?_ | refine rf ?_ | refine rs ?_ | refine And.intro ?_ ?_) | omega | simp (maxSteps := 1000000) only [go_sem, simprocAttr, ↓reduceIte])
      refine Ret.auto 0 ?_ rfl ?_ <;> simp only [go_sem, reduceCtorEq, reduceIte, Nat.reduceEqDiff, Nat.reduceLT, Nat.reduceLeDiff, Int.natCast_succ, Post, Bool.false_or, Bool.true_or, Bool.or_false, Bool.or_true]
    · (repeat' first | with_reducible (first | intro _ | refine rc ?_ | refine rl ?_ | refine rh ?_ | refine rt ?_ | refine rf ?_ | refine rs ?_ | refine And.intro ?_ ?_) | omega | simp (maxSteps := 1000000) only [go_sem, simprocAttr, ↓reduceIte])
      refine Ret.auto 0 ?_ rfl ?_ <;> simp only [go_sem, reduceCtorEq, reduceIte, Nat.reduceEqDiff, Nat.reduceLT, Nat.reduceLeDiff, Int.natCast_succ, Post, Bool.false_or, Bool.true_or, Bool.or_false, Bool.or_true]
  · (repeat' first | with_reducible (first | intro _ | refine rc ?_ | refine rl ?_ | refine rh ?_ | refine rt ?_ | refine rf ?_ | refine rs ?_ | refine And.intro ?_ ?_) | omega | simp (maxSteps := 1000000) only [go_sem, simprocAttr, ↓reduceIte])
    refine VcCall.k (k1) ?_
    cases p1
    · (repeat' first | with_reducible (first | intro _ | refine rc ?_ | refine rl ?_ | refine rh ?_ | refine rt ?_ | refine rf ?_ | refine rs ?_ | refine And.intro ?_ ?_) | omega | simp (maxSteps := 1000000) only [go_sem, simprocAttr, ↓reduceIte])
      refine VcCall.k (k2) ?_
      cases p2
      · (repeat' first | with_reducible (first | intro _ | refine rc ?_ | refine rl ?_ | refine rh ?_ | refine rt ?_ | refine rf ?_ | refine rs ?_ | refine And.intro ?_ ?_) | omega | simp (maxSteps := 1000000) only [go_sem, simprocAttr, ↓reduceIte])
        refine VcCall.k (k3) ?_
        (repeat' first | with_reducible (first | intro _ | refine rc ?_ | refine rl ?_ | refine rh ?_ | refine rt ?_ | refine rf ?_ | refine rs ?_ | refine And.intro ?_ ?_) | omega | simp (maxSteps := 1000000) only [go_sem, simprocAttr, ↓reduceIte])
        cases p3 <;> (refine Ret.auto 0 ?_ rfl ?_ <;> simp only [go_sem, reduceCtorEq, reduceIte, Nat.reduceEqDiff, Nat.reduceLT, Nat.reduceLeDiff, Int.natCast_succ, Post, Bool.false_or, Bool.true_or, Bool.or_false, Bool.or_true])
      · (repeat' first | with_reducible (first | intro _ | refine rc ?_ | refine rl ?_ | refine rh ?_ | refine rt ?_ | refine rf ?_ | refine rs ?_ | refine And.intro ?_ ?_) | omega | simp (maxSteps := 1000000) only [go_sem, simprocAttr, ↓reduceIte])
        refine Ret.auto 0 ?_ rfl ?_ <;> simp only [go_sem, reduceCtorEq, reduceIte, Nat.reduceEqDiff, Nat.reduceLT, Nat.reduceLeDiff, Int.natCast_succ, Post, Bool.false_or, Bool.true_or, Bool.or_false, Bool.or_true]
    · (repeat' first | with_reducible (first | intro _ | refine rc ?_ | refine rl ?_ | refine rh ?_ | refine rt ?_ | refine rf ?_ | refine rs ?_ | refine And.intro ?_ ?_) | omega | simp (maxSteps := 1000000) only [go_sem, simprocAttr, ↓reduceIte])
      refine Ret.auto 0 ?_ rfl ?_ <;> simp only [go_sem, reduceCtorEq, reduceIte, Nat.reduceEqDiff, Nat.reduceLT, Nat.reduceLeDiff, Int.natCast_succ, Post, Bool.false_or, Bool.true_or, Bool.or_false, Bool.or_true]
end Go.Fv.Y
