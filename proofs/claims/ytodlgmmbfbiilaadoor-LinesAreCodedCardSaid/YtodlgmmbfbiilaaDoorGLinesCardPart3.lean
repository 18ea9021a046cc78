/-
  A part of the proof of the claim: walks over the program's functions and the plain laws that these need. No condition of its own.
-/
import Derived.Test.YtodlgmmbfbiilaaDoorGLinesCardPart2
import Derived.Test.YtodlgmmbfbiilaaDoorFvPart11
import Derived.Test.YtodlgmmbfbiilaaDoorGLinesCardPart1
import Derived.Test.YtodlgmmbfbiilaaDoorFvPart10
/- strings.Builder: what its methods do to a caller's builder. -/
namespace Go.Fv.G
open Go Go.Proofs
set_option linter.unusedSimpArgs false
set_option linter.unusedVariables false
set_option linter.unnecessarySimpa false
set_option maxRecDepth 8000

theorem lk1 {a it : Item} {i : Nat} (h : lk [(0, a)] i = some it) : i = 0 ∧ it = a := by
  simp only [lk] at h
  split at h
  · rename_i e; exact ⟨e.symm, (Option.some.inj h).symm⟩
  · cases h
theorem lk2 {a b it : Item} {i : Nat} (h : lk [(0, a), (1, b)] i = some it) : (i = 0 ∧ it = a) ∨ (i = 1 ∧ it = b) := by
  simp only [lk] at h
  split at h
  · rename_i e; exact .inl ⟨e.symm, (Option.some.inj h).symm⟩
  · split at h
    · rename_i e; exact .inr ⟨e.symm, (Option.some.inj h).symm⟩
    · cases h
theorem copyFresh_io : FnIO Tryd.prog 69 [.ptr 0 0] [(0, .box 70 [.raw (.pointer none), .nilS])] 1 (.tup []) [(0, .box 70 [.ptr 0 0, .nilS])] := by
  refine ⟨⟨_, Tryd.func69, by kernel_rfl, by kernel_rfl⟩, fun w T g m0 vals ⟨hrow, _, hd⟩ hgl hng hv => ?_⟩
  obtain ⟨_, g0, vs, hm, hO, hl, hh⟩ := hrow 0 _ rfl
  cases hv with
  | cons _ v0 _ vs0 h0 hvs =>
  cases hvs
  cases h0 with
  | ptr _ _ gp hi hg =>
  have hg : blk (m0 0) = some gp := hg
  rw [hm] at hg
  cases hg
  cases hl with
  | cons _ a _ _ ha _ hl =>
  cases ha
  cases hl with
  | cons _ b _ _ hb _ hl =>
  cases hb
  cases hl
  have hh' : w.heap[g0]? = some (.cells #[.pointer none, .slice none 0 0] 70 (0, 0)) := hh
  refine (copyFresh g0 w (by simp [World.cell?, hh']) (by simp [World.shape?, hh']) (by simp [World.frozen?, hh'])).mono ?_
  rintro e w' ⟨rfl, rfl⟩
  refine ⟨_, rfl, ⟨rfl, rfl, rfl, by simp [World.setCell], Nat.le_refl _, fun k hk hn => setCell_other' w g0 k _ fun e => hn (e ▸ hO)⟩, m0, 1, fun _ _ => rfl, Nat.le_refl _, .tup [] [] .nil, fun i it hi => ?_, fun i j it jt b hi hj _ _ => ?_⟩
  · obtain ⟨rfl, rfl⟩ := lk1 hi
    refine ⟨Nat.one_pos, g0, [.pointer (some ⟨g0, 0, none⟩), .slice none 0 0], hm, .inr ⟨hO, .inr hO⟩, ?_, setCell_same w g0 _ _ _ _ hh'⟩
    exact .cons _ _ _ _ (.ptr 0 0 g0 Nat.one_pos (by show blk (m0 0) = some g0; rw [hm]; rfl)) rfl (.cons _ _ _ _ .nilS rfl .nil)
  · rw [(lk1 hi).1, (lk1 hj).1]
theorem copyUsed_io (e : TypeId) (l : List Int) : FnIO Tryd.prog 69 [.ptr 0 0] [(0, .box 70 [.ptr 0 0, .own 1]), (1, .row e (.ints .u8 l))] 2 (.tup []) [(0, .box 70 [.ptr 0 0, .own 1]), (1, .row e (.ints .u8 l))] := by
  refine ⟨⟨_, Tryd.func69, by kernel_rfl, by kernel_rfl⟩, fun w T g m0 vals ⟨hrow, hsep, hd⟩ hgl hng hv => ?_⟩
  obtain ⟨_, g0, vs, hm, hO, hl, hh⟩ := hrow 0 _ rfl
  obtain ⟨_, n, cells, hr, hn, how, hO2⟩ := hrow 1 _ rfl
  cases hv with
  | cons _ v0 _ vs0 h0 hvs =>
  cases hvs
  cases h0 with
  | ptr _ _ gp hi hg =>
  have hg : blk (m0 0) = some gp := hg
  rw [hm] at hg
  cases hg
  cases hl with
  | cons _ a _ _ ha _ hl =>
  cases ha with
  | ptr _ _ ga _ hga =>
  have hga : blk (m0 0) = some ga := hga
  rw [hm] at hga
  cases hga
  cases hl with
  | cons _ b _ _ hb hb1 hl =>
  cases hl
  have hh' : w.heap[g0]? = some (.cells #[.pointer (some ⟨g0, 0, none⟩), b] 70 (0, 0)) := hh
  refine (copyUsed g0 w (by simp [World.cell?, hh'])).mono ?_
  rintro e w' ⟨rfl, rfl⟩
  refine ⟨_, rfl, BelowG.refl _ _, m0, 2, fun _ _ => rfl, Nat.le_refl _, .tup [] [] .nil, fun i it hi => ?_, fun i j it jt b hi hj h1 h2 => ?_⟩
  · rcases lk2 hi with ⟨rfl, rfl⟩ | ⟨rfl, rfl⟩
    · refine ⟨by decide, g0, [.pointer (some ⟨g0, 0, none⟩), b], hm, .inr ⟨hO, .inr hO⟩, ?_, hh'⟩
      cases hb with
      | own _ h5 h6 => exact .cons _ _ _ _ (.ptr 0 0 g0 (show 0 < 2 by decide) (by show blk (m0 0) = some g0; rw [hm]; rfl)) rfl (.cons _ _ _ _ (.own 1 (show 1 < 2 by decide) h6) hb1 .nil)
    · refine ⟨by decide, n, cells, ?_, hn, how, fun b hb => .inr ⟨hO2 b hb, .inr (hO2 b hb)⟩⟩
      cases hr with
      | ints _ _ h7 => exact .ints _ _ h7
  · exact hsep i j it jt b hi hj h1 h2
theorem covB2 {a b : Item} : ∀ j, j < 2 → ∃ it, lk [(0, a), (1, b)] j = some it := fun j hj => by
  have : j = 0 ∨ j = 1 := by omega
  rcases this with rfl | rfl
  · exact ⟨a, rfl⟩
  · exact ⟨b, rfl⟩
theorem covB1 {a : Item} : ∀ j, j < 1 → ∃ it, lk [(0, a)] j = some it := fun j hj => by
  obtain rfl : j = 0 := by omega
  exact ⟨a, rfl⟩
set_option maxHeartbeats 2000000 in
theorem writeFresh_io (s : List UInt8) (hs : s.length ≤ 100000000000) : FnIO Tryd.prog 43 [.ptr 0 0, .str s] [(0, .box 70 [.raw (.pointer none), .nilS])] 1 (.tup [.int .i64 s.length, .raw .nilIface]) [(0, .box 70 [.ptr 0 0, .own 1]), (1, .row 5 (.ints .u8 (byteInts s)))] := by
  have k := copyFresh_io
  refine FnIO.of_vc Tryd.func43 rfl (by decide) (by simp [Tryd.f43]) covB1 [.tmp 4, .tmp 5] rfl fun w0 T0 _ => ?_
  simp only [Tryd.f43, argEnv]
  (repeat' first | with_reducible (first | intro _ | refine rc ?_ | refine rl ?_ | refine rh ?_ | refine ru ?_ | refine rt ?_ | refine rf ?_ | refine rs ?_ | refine And.intro ?_ ?_) | omega | simp (maxSteps := 1000000) only [go_sem, simprocAttr, ↓reduceIte])
  refine VcCall.io [0] k (by decide) (by simp [renL, ren, ioN]) rfl (by simp [subOk, ioN, lk, Item.ren, Item.below, ren, renL, belowL, Fv.below]) covB1 1 (by decide) rfl (by simp [rowsB, Item.below, Fv.below, belowL]) ?_
  (repeat' first | with_reducible (first | intro _ | refine rc ?_ | refine rl ?_ | refine rh ?_ | refine ru ?_ | refine rt ?_ | refine rf ?_ | refine rs ?_ | refine And.intro ?_ ?_) | omega | simp (maxSteps := 1000000) only [go_sem, simprocAttr, ↓reduceIte, S.ioS, ioRows, ioN, delL, Item.ren, ren, renL, List.length_cons, List.length_nil, List.getElem?_cons_zero, List.getElem?_cons_succ, List.getElem?_nil, List.cons_append, List.nil_append, Nat.reduceAdd, Nat.sub_self, Nat.add_zero, List.filter, zrow])
  refine RetK.of [(1, 2)] 3 (by decide) (by decide) ?_ rfl ?_ <;> simp only [go_sem, reduceCtorEq, reduceIte, Nat.reduceEqDiff, Nat.reduceLT, Nat.reduceLeDiff, Int.natCast_succ, byteInts, renR_ok, belowR_ok]
set_option maxHeartbeats 2000000 in
theorem writeUsed_io (b s : List UInt8) (hb : b.length ≤ 100000000000) (hs : s.length ≤ 10000000000) : FnIO Tryd.prog 43 [.ptr 0 0, .str s] [(0, .box 70 [.ptr 0 0, .own 1]), (1, .row 5 (.ints .u8 (byteInts b)))] 2 (.tup [.int .i64 s.length, .raw .nilIface]) [(0, .box 70 [.ptr 0 0, .own 2]), (2, .row 5 (.ints .u8 (byteInts (b ++ s))))] := by
  have k := copyUsed_io 5 (byteInts b)
  have hbl := byteInts_len b
  have he : byteInts (b ++ s) = byteInts b ++ s.map (fun b => (b.toNat : Int)) := by unfold byteInts; rw [List.map_append]
  generalize byteInts b = B at *
  generalize byteInts (b ++ s) = C at *
  refine FnIO.of_vc Tryd.func43 rfl (by decide) (by simp [Tryd.f43]) covB2 [.tmp 4, .tmp 5] rfl fun w0 T0 _ => ?_
  simp only [Tryd.f43, argEnv]
  (repeat' first | with_reducible (first | intro _ | refine rc ?_ | refine rl ?_ | refine rh ?_ | refine ru ?_ | refine rt ?_ | refine rf ?_ | refine rs ?_ | refine And.intro ?_ ?_) | omega | simp (maxSteps := 1000000) only [go_sem, simprocAttr, ↓reduceIte])
  refine VcCall.io [0, 1] k (by decide) (by simp [renL, ren, ioN]) rfl (by simp [subOk, ioN, lk, Item.ren, Item.below, ren, renL, belowL, Fv.below, renR_ok, belowR_ok]) covB2 2 (by decide) rfl (by simp [rowsB, Item.below, Fv.below, belowL, belowR_ok]) ?_
  (repeat' first | with_reducible (first | intro _ | refine rc ?_ | refine rl ?_ | refine rh ?_ | refine ru ?_ | refine rt ?_ | refine rf ?_ | refine rs ?_ | refine And.intro ?_ ?_) | omega | simp (maxSteps := 1000000) only [go_sem, simprocAttr, ↓reduceIte, S.ioS, ioRows, ioN, delL, Item.ren, ren, renL, renR_ok, List.length_cons, List.length_nil, List.getElem?_cons_zero, List.getElem?_cons_succ, List.getElem?_nil, List.cons_append, List.nil_append, Nat.reduceAdd, Nat.sub_self, Nat.add_zero, List.filter, zrow])
  refine RetK.of [(2, 2)] 3 (by decide) (by decide) ?_ rfl ?_ <;> simp only [go_sem, reduceCtorEq, reduceIte, Nat.reduceEqDiff, Nat.reduceLT, Nat.reduceLeDiff, Int.natCast_succ, he, renR_ok, belowR_ok]
set_option maxHeartbeats 2000000 in
theorem stringFresh_io : FnIO Tryd.prog 45 [.ptr 0 0] [(0, .box 70 [.raw (.pointer none), .nilS])] 1 (.str []) [] := by
  refine FnIO.of_vc Tryd.func45 rfl (by decide) (by simp [Tryd.f45]) covB1 [.tmp 2] rfl fun w0 T0 _ => ?_
  simp only [Tryd.f45, argEnv]
  (repeat' first | with_reducible (first | intro _ | refine rc ?_ | refine rl ?_ | refine rh ?_ | refine ru ?_ | refine rt ?_ | refine rf ?_ | refine rs ?_ | refine And.intro ?_ ?_) | omega | simp (maxSteps := 1000000) only [go_sem, simprocAttr, ↓reduceIte])
  refine VcDraw.lex [] [] (by kernel_rfl) (by kernel_rfl) ?_
  (repeat' first | with_reducible (first | intro _ | refine rc ?_ | refine rl ?_ | refine rh ?_ | refine ru ?_ | refine rt ?_ | refine rf ?_ | refine rs ?_ | refine And.intro ?_ ?_) | omega | simp (maxSteps := 1000000) only [go_sem, simprocAttr, ↓reduceIte])
  refine QV.intro (.raw (.pointer none)) ?_ ?_
  · (repeat' first | with_reducible (first | intro _ | refine rc ?_ | refine rl ?_ | refine rh ?_ | refine ru ?_ | refine rt ?_ | refine rf ?_ | refine rs ?_ | refine And.intro ?_ ?_) | omega | simp (maxSteps := 1000000) only [go_sem, simprocAttr, ↓reduceIte])
  (repeat' first | with_reducible (first | intro _ | refine rc ?_ | refine rl ?_ | refine rh ?_ | refine ru ?_ | refine rt ?_ | refine rf ?_ | refine rs ?_ | refine And.intro ?_ ?_) | omega | simp (maxSteps := 1000000) only [go_sem, simprocAttr, ↓reduceIte])
  refine QV.intro (.str []) ?_ ?_
  · (repeat' first | with_reducible (first | intro _ | refine rc ?_ | refine rl ?_ | refine rh ?_ | refine ru ?_ | refine rt ?_ | refine rf ?_ | refine rs ?_ | refine And.intro ?_ ?_) | omega | simp (maxSteps := 1000000) only [go_sem, simprocAttr, ↓reduceIte])
  (repeat' first | with_reducible (first | intro _ | refine rc ?_ | refine rl ?_ | refine rh ?_ | refine ru ?_ | refine rt ?_ | refine rf ?_ | refine rs ?_ | refine And.intro ?_ ?_) | omega | simp (maxSteps := 1000000) only [go_sem, simprocAttr, ↓reduceIte])
  refine RetK.auto 1 (Nat.le_refl 1) ?_ rfl ?_ <;> simp only [go_sem, reduceCtorEq, reduceIte, Nat.reduceEqDiff, Nat.reduceLT, Nat.reduceLeDiff, Int.natCast_succ]
set_option maxHeartbeats 2000000 in
theorem stringUsed_io (b : List UInt8) (hb : 0 < b.length) : FnIO Tryd.prog 45 [.ptr 0 0] [(0, .box 70 [.ptr 0 0, .own 1]), (1, .row 5 (.ints .u8 (byteInts b)))] 2 (.str b) [] := by
  have hbl := byteInts_len b
  have hz : ((byteInts b).map fun n => UInt8.ofNat n.toNat) = b := bytesOf_byteInts b
  have hne : byteInts b ≠ [] := fun e => by rw [e] at hbl; simp at hbl; omega
  generalize byteInts b = B at *
  refine FnIO.of_vc Tryd.func45 rfl (by decide) (by simp [Tryd.f45]) covB2 [.tmp 2] rfl fun w0 T0 _ => ?_
  simp only [Tryd.f45, argEnv]
  (repeat' first | with_reducible (first | intro _ | refine rc ?_ | refine rl ?_ | refine rh ?_ | refine ru ?_ | refine rt ?_ | refine rf ?_ | refine rs ?_ | refine And.intro ?_ ?_) | omega | simp (maxSteps := 1000000) only [go_sem, simprocAttr, ↓reduceIte])
  refine VcDraw.lex [10] [] (by kernel_rfl) (by kernel_rfl) ?_
  (repeat' first | with_reducible (first | intro _ | refine rc ?_ | refine rl ?_ | refine rh ?_ | refine ru ?_ | refine rt ?_ | refine rf ?_ | refine rs ?_ | refine And.intro ?_ ?_) | omega | simp (maxSteps := 1000000) only [go_sem, simprocAttr, ↓reduceIte, hne, hbl, hz])
  refine QV.intro (.elt 1 1 0 0) ?_ ?_
  · (repeat' first | with_reducible (first | intro _ | refine rc ?_ | refine rl ?_ | refine rh ?_ | refine ru ?_ | refine rt ?_ | refine rf ?_ | refine rs ?_ | refine And.intro ?_ ?_) | omega | simp (maxSteps := 1000000) only [go_sem, simprocAttr, ↓reduceIte, hne, hbl, hz])
  (repeat' first | with_reducible (first | intro _ | refine rc ?_ | refine rl ?_ | refine rh ?_ | refine ru ?_ | refine rt ?_ | refine rf ?_ | refine rs ?_ | refine And.intro ?_ ?_) | omega | simp (maxSteps := 1000000) only [go_sem, simprocAttr, ↓reduceIte, hne, hbl, hz])
  trace_state
  refine QE.intro (.str b) [(2, .row 5 (.ints .u8 [])), (0, .box 70 [.ptr 0 0, .own 1])] 3 ?_ ?_
  · (repeat' first | with_reducible (first | intro _ | refine rc ?_ | refine rl ?_ | refine rh ?_ | refine ru ?_ | refine rt ?_ | refine rf ?_ | refine rs ?_ | refine And.intro ?_ ?_) | omega | simp (maxSteps := 1000000) only [go_sem, simprocAttr, ↓reduceIte, hne, hbl, hz])
  (repeat' first | with_reducible (first | intro _ | refine rc ?_ | refine rl ?_ | refine rh ?_ | refine ru ?_ | refine rt ?_ | refine rf ?_ | refine rs ?_ | refine And.intro ?_ ?_) | omega | simp (maxSteps := 1000000) only [go_sem, simprocAttr, ↓reduceIte, hne, hbl, hz])
  refine RetK.auto 2 (Nat.le_refl 2) ?_ rfl ?_ <;> simp only [go_sem, reduceCtorEq, reduceIte, Nat.reduceEqDiff, Nat.reduceLT, Nat.reduceLeDiff, Int.natCast_succ]
end Go.Fv.G

/- shrink.line: the walk. -/
namespace Go.Fv.G
open Go Go.Proofs
set_option linter.unusedSimpArgs false
set_option linter.unusedVariables false
set_option linter.unnecessarySimpa false
set_option maxRecDepth 8000

theorem near_pos {k : Nat} (h : k ≤ 6) : 0 < (nearCs.getD k []).length := by
  have : k = 0 ∨ k = 1 ∨ k = 2 ∨ k = 3 ∨ k = 4 ∨ k = 5 ∨ k = 6 := by omega
  rcases this with rfl | rfl | rfl | rfl | rfl | rfl | rfl <;> decide
structure LSy where
  p : Nat
  k : Bool
  o : Bytes
  u : Bool
structure LSJ (row above : List Bool) (x : LSy) : Prop where
  s : LSI row above ⟨x.p, x.k, x.o⟩
  u1 : x.u = true → 0 < x.o.length
  u2 : x.u = false → x.o = [] ∧ x.p = 0
  u3 : row.length = 0 → x.u = false
set_option maxHeartbeats 16000000 in
theorem line_ok (row above : List Bool) (hr : row.length ≤ 4000) (hw : above.length = row.length) :
    FnOk Tryd.prog 21 [.ro (.bools row), .ro (.bools above)] (.str (lineB row above)) [] := by
  refine FnOk.of_vc Tryd.func21 rfl (by decide) (by simp [Tryd.f21]) [.tmp 4] rfl fun w0 T0 _ => ?_
  simp only [Tryd.f21, argEnv]
  (repeat' first | with_reducible (first | intro _ | refine rc ?_ | refine rl ?_ | refine rh ?_ | refine ru ?_ | refine rt ?_ | refine rf ?_ | refine rs ?_ | refine And.intro ?_ ?_) | omega | simp (maxSteps := 1000000) only [go_sem, simprocAttr, ↓reduceIte])
  refine VcLoop.intro (fun x : LSy => ⟨76, [(5, .ptr 0 0), (8, .int .i64 ((x.p : Int) - 1)), (7, .bool x.k), (6, .int .i64 row.length), (1, .ro (.bools above)), (0, .ro (.bools row))], bif x.u then [(0, .box 70 [.ptr 0 0, .own 1]), (1, .row 5 (.ints .u8 (byteInts x.o)))] else [(0, .box 70 [.raw (.pointer none), .nilS])], bif x.u then 2 else 1⟩) (LSJ row above) (fun x => row.length + 1 - x.p) ⟨0, false, [], false⟩ ?_ ⟨⟨by dsimp only; omega, rfl, by simp, fun _ => rfl⟩, (by intro h; cases h), fun _ => ⟨rfl, rfl⟩, fun _ => rfl⟩ fun x hI => ?_
  · refine Ent.auto0 rfl ?_ ?_ <;> simp only [go_sem, reduceCtorEq, reduceIte, Nat.reduceEqDiff, Nat.reduceLT, Nat.reduceLeDiff, Int.natCast_succ, cond_false]
    all_goals first | rfl | exact ⟨rfl, rfl⟩
  obtain ⟨p, k, o, u⟩ := x
  obtain ⟨hI0, hu1, hu2, hu3⟩ := hI
  have hI := hI0
  obtain ⟨hp, ho, hl, _⟩ := hI
  dsimp only at *
  by_cases hlt : p ≤ row.length ∧ 0 < row.length
  rotate_left
  · have hres := hI0.done hlt
    by_cases h0 : 0 < row.length
    · have f1 : ((p : Int) - 1 < (row.length : Int)) = False := eq_false (by omega)
      cases u with
      | false => have := (hu2 rfl).2; omega
      | true =>
        have kst := stringUsed_io o (hu1 rfl)
        simp only [cond_true, cond_false, List.cons_append, List.nil_append]
        (repeat' first | with_reducible (first | intro _ | refine rc ?_ | refine rl ?_ | refine rh ?_ | refine ru ?_ | refine rt ?_ | refine rf ?_ | refine rs ?_ | refine And.intro ?_ ?_) | omega | simp (maxSteps := 1000000) only [go_sem, simprocAttr, ↓reduceIte, f1])
        refine VcCall.io [0, 1] kst (by decide) (by simp [renL, ren, ioN]) rfl (by simp [subOk, ioN, lk, Item.ren, Item.below, ren, renL, belowL, Fv.below, renR_ok, belowR_ok]) covB2 2 (by decide) rfl (by simp [rowsB]) ?_
        (repeat' first | with_reducible (first | intro _ | refine rc ?_ | refine rl ?_ | refine rh ?_ | refine ru ?_ | refine rt ?_ | refine rf ?_ | refine rs ?_ | refine And.intro ?_ ?_) | omega | simp (maxSteps := 1000000) only [go_sem, simprocAttr, ↓reduceIte, S.ioS, ioRows, ioN, delL, Item.ren, ren, renL, renR_ok, List.length_cons, List.length_nil, List.getElem?_cons_zero, List.getElem?_cons_succ, List.getElem?_nil, List.cons_append, List.nil_append, Nat.reduceAdd, Nat.sub_self, Nat.add_zero, List.filter])
        refine Ret.auto 0 ?_ rfl ?_ <;> simp only [go_sem, reduceCtorEq, reduceIte, Nat.reduceEqDiff, Nat.reduceLT, Nat.reduceLeDiff, Int.natCast_succ, Post, hres]
    · have f2 : ((row.length : Int) = 0) = True := eq_true (by omega)
      have hu := hu3 (by omega)
      subst hu
      obtain ⟨h0a, h0b⟩ := hu2 rfl
      subst h0a
      have f1 : ((p : Int) - 1 < (row.length : Int)) = True := eq_true (by omega)
      have kst := stringFresh_io
      simp only [cond_true, cond_false, List.cons_append, List.nil_append]
      (repeat' first | with_reducible (first | intro _ | refine rc ?_ | refine rl ?_ | refine rh ?_ | refine ru ?_ | refine rt ?_ | refine rf ?_ | refine rs ?_ | refine And.intro ?_ ?_) | omega | simp (maxSteps := 1000000) only [go_sem, simprocAttr, ↓reduceIte, f1, f2])
      refine VcCall.io [0] kst (by decide) (by simp [renL, ren, ioN]) rfl (by simp [subOk, ioN, lk, Item.ren, Item.below, ren, renL, belowL, Fv.below, renR_ok, belowR_ok]) covB1 1 (by decide) rfl (by simp [rowsB]) ?_
      (repeat' first | with_reducible (first | intro _ | refine rc ?_ | refine rl ?_ | refine rh ?_ | refine ru ?_ | refine rt ?_ | refine rf ?_ | refine rs ?_ | refine And.intro ?_ ?_) | omega | simp (maxSteps := 1000000) only [go_sem, simprocAttr, ↓reduceIte, S.ioS, ioRows, ioN, delL, Item.ren, ren, renL, renR_ok, List.length_cons, List.length_nil, List.getElem?_cons_zero, List.getElem?_cons_succ, List.getElem?_nil, List.cons_append, List.nil_append, Nat.reduceAdd, Nat.sub_self, Nat.add_zero, List.filter])
      refine Ret.auto 0 ?_ rfl ?_ <;> simp only [go_sem, reduceCtorEq, reduceIte, Nat.reduceEqDiff, Nat.reduceLT, Nat.reduceLeDiff, Int.natCast_succ, Post, ← hres]
  obtain ⟨hle, hw0⟩ := hlt
  have f1 : ((p : Int) - 1 < (row.length : Int)) = True := eq_true (by omega)
  have f2 : ((row.length : Int) = 0) = False := eq_false (by omega)
  have k1 := change_ok row p ((p : Int) - 1) rfl (by omega) hr
  have c1 := chg_le row p
  have c2 := chg_ge hle
  have k3 := changeTo_ok above p ((p : Int) - 1) (!k) rfl (by omega) (by omega)
  obtain ⟨a1, hA⟩ : ∃ a1, chg row p = a1 := ⟨_, rfl⟩
  rw [hA] at k1 c1 c2
  obtain ⟨a2, hA2⟩ : ∃ a2, chg row (a1 + 1) = a2 := ⟨_, rfl⟩
  have c3 := chg_le row (a1 + 1)
  have k2 := change_ok row (a1 + 1) (a1 : Int) (by omega) (by omega) hr
  rw [hA2] at c3 k2
  have c4 : a1 ≤ a2 := by
    by_cases h : a1 < row.length
    · have := chg_ge (r := row) (i := a1 + 1) (by omega); omega
    · rw [chg_end (by omega)] at hA2; omega
  obtain ⟨b1, hB1⟩ : ∃ b1, chTo above p (!k) = b1 := ⟨_, rfl⟩
  have hb1 := chTo_ge (r := above) (i := p) (by omega) (!k)
  rw [hB1] at k3 hb1
  obtain ⟨b2, hB2⟩ : ∃ b2, chg above (b1 + 1) = b2 := ⟨_, rfl⟩
  have k4 := change_ok above (b1 + 1) (b1 : Int) (by omega) (by omega) (by omega)
  rw [hB2] at k4
  cases u with
  | true =>
    simp only [cond_true, cond_false, List.cons_append, List.nil_append]
    have hop := hu1 rfl
    (repeat' first | with_reducible (first | intro _ | refine rc ?_ | refine rl ?_ | refine rh ?_ | refine ru ?_ | refine rt ?_ | refine rf ?_ | refine rs ?_ | refine And.intro ?_ ?_) | omega | simp (maxSteps := 1000000) only [go_sem, simprocAttr, ↓reduceIte, f1, f2])
    refine VcCall.k (k1) ?_
    (repeat' first | with_reducible (first | intro _ | refine rc ?_ | refine rl ?_ | refine rh ?_ | refine ru ?_ | refine rt ?_ | refine rf ?_ | refine rs ?_ | refine And.intro ?_ ?_) | omega | simp (maxSteps := 1000000) only [go_sem, simprocAttr, ↓reduceIte])
    refine VcCall.k (k2) ?_
    (repeat' first | with_reducible (first | intro _ | refine rc ?_ | refine rl ?_ | refine rh ?_ | refine ru ?_ | refine rt ?_ | refine rf ?_ | refine rs ?_ | refine And.intro ?_ ?_) | omega | simp (maxSteps := 1000000) only [go_sem, simprocAttr, ↓reduceIte])
    refine VcCall.k (k3) ?_
    (repeat' first | with_reducible (first | intro _ | refine rc ?_ | refine rl ?_ | refine rh ?_ | refine ru ?_ | refine rt ?_ | refine rf ?_ | refine rs ?_ | refine And.intro ?_ ?_) | omega | simp (maxSteps := 1000000) only [go_sem, simprocAttr, ↓reduceIte])
    refine VcCall.k (k4) ?_
    by_cases s1 : b2 < a1
    · have f5 : ((b2 : Int) < (a1 : Int)) = True := eq_true (by omega)
      have e : lnStep row above p k = ⟨passC, b2 + 1, k⟩ := by unfold lnStep; rw [hB1, hB2, hA, if_pos s1]
      obtain ⟨q1, q2, q3, q4⟩ := hI0.step hw hr hle hw0 e
      have kw2 := writeUsed_io o ([48, 48, 48, 49]) (by omega) (by decide)
      have hpl : 0 < passC.length := by decide
      (repeat' first | with_reducible (first | intro _ | refine rc ?_ | refine rl ?_ | refine rh ?_ | refine ru ?_ | refine rt ?_ | refine rf ?_ | refine rs ?_ | refine And.intro ?_ ?_) | omega | simp (maxSteps := 1000000) only [go_sem, simprocAttr, ↓reduceIte, f5])
      refine VcCall.io [0, 1] kw2 (by decide) (by simp [renL, ren, ioN]) rfl (by simp [subOk, ioN, lk, Item.ren, Item.below, ren, renL, belowL, Fv.below, renR_ok, belowR_ok]) covB2 3 (by decide) rfl (by simp [rowsB, Item.below, Fv.below, belowL, belowR_ok]) ?_
      (repeat' first | with_reducible (first | intro _ | refine rc ?_ | refine rl ?_ | refine rh ?_ | refine ru ?_ | refine rt ?_ | refine rf ?_ | refine rs ?_ | refine And.intro ?_ ?_) | omega | simp (maxSteps := 1000000) only [go_sem, simprocAttr, ↓reduceIte, S.ioS, ioRows, ioN, delL, Item.ren, ren, renL, renR_ok, List.length_cons, List.length_nil, List.getElem?_cons_zero, List.getElem?_cons_succ, List.getElem?_nil, List.cons_append, List.nil_append, Nat.reduceAdd, Nat.sub_self, Nat.add_zero, List.filter])
      refine ⟨⟨b2 + 1, k, o ++ passC, true⟩, Ent.auto0 rfl ?_ ?_, ⟨q3, fun _ => ?_, (by intro h; cases h), fun h => by omega⟩, by dsimp only; omega⟩
      · simp only [go_sem, reduceCtorEq, reduceIte, Nat.reduceEqDiff, Nat.reduceLT, Nat.reduceLeDiff, Int.natCast_succ, cond_true, List.cons_append, List.nil_append, List.append_assoc, passC]
        all_goals first | rfl | omega | (refine ⟨?_, ?_⟩ <;> first | rfl | omega)
      · simp only [go_sem, reduceCtorEq, reduceIte, Nat.reduceEqDiff, Nat.reduceLT, Nat.reduceLeDiff, Int.natCast_succ, cond_true, List.cons_append, List.nil_append, List.append_assoc, passC]
        all_goals first | rfl | omega | (refine ⟨?_, ?_⟩ <;> first | rfl | omega)
      · dsimp only; rw [List.length_append]; omega
    have f5 : ((b2 : Int) < (a1 : Int)) = False := eq_false (by omega)
    by_cases s2 : a1 ≤ b1 + 3 ∧ b1 ≤ a1 + 3
    · have f6 : (-3 ≤ (a1 : Int) - (b1 : Int)) = True := eq_true (by omega)
      have f7 : ((a1 : Int) - (b1 : Int) ≤ 3) = True := eq_true (by omega)
      have e : lnStep row above p k = ⟨nearCs.getD (a1 + 3 - b1) [], a1 + 1, !k⟩ := by unfold lnStep; rw [hB1, hB2, hA, if_neg s1, if_pos s2]
      obtain ⟨q1, q2, q3, q4⟩ := hI0.step hw hr hle hw0 e
      have hix : ((a1 : Int) - (b1 : Int) + 3).toNat = a1 + 3 - b1 := by omega
      have hnl : nearCs.length = 7 := rfl
      have hpl := near_pos (k := a1 + 3 - b1) (by omega)
      have kw2 := writeUsed_io o (nearCs.getD (a1 + 3 - b1) []) (by omega) (by omega)
      generalize hcd : nearCs.getD (a1 + 3 - b1) [] = cd at *
      (repeat' first | with_reducible (first | intro _ | refine rc ?_ | refine rl ?_ | refine rh ?_ | refine ru ?_ | refine rt ?_ | refine rf ?_ | refine rs ?_ | refine And.intro ?_ ?_) | omega | simp (maxSteps := 1000000) only [go_sem, simprocAttr, ↓reduceIte, f5, f6, f7])
      refine VcCall.fr (FnFr.of_ok nearCodes_ok rfl rfl) (by simp only [noIdR_ok, argOkL, argOk, allOk, argOkN, List.drop_zero, lk, reduceIte, reduceCtorEq, Nat.reduceEqDiff, Option.some.injEq, Item.row.injEq, Item.box.injEq, AV.ro.injEq, exists_eq_left, exists_and_left, exists_eq_left', exists_eq_right, and_assoc, and_true, true_and, List.cons.injEq, exists_eq', exists_eq]) 1 rfl (by simp [rowsB, Item.below, belowR_ok]) ?_
      (repeat' first | with_reducible (first | intro _ | refine rc ?_ | refine rl ?_ | refine rh ?_ | refine ru ?_ | refine rt ?_ | refine rf ?_ | refine rs ?_ | refine And.intro ?_ ?_) | omega | simp (maxSteps := 1000000) only [go_sem, simprocAttr, ↓reduceIte, renR_ok, hix, hnl, hcd, f6, f7])
      refine VcCall.io [0, 1] kw2 (by decide) (by simp [renL, ren, ioN]) rfl (by simp [subOk, ioN, lk, Item.ren, Item.below, ren, renL, belowL, Fv.below, renR_ok, belowR_ok]) covB2 3 (by decide) rfl (by simp [rowsB, Item.below, Fv.below, belowL, belowR_ok]) ?_
      (repeat' first | with_reducible (first | intro _ | refine rc ?_ | refine rl ?_ | refine rh ?_ | refine ru ?_ | refine rt ?_ | refine rf ?_ | refine rs ?_ | refine And.intro ?_ ?_) | omega | simp (maxSteps := 1000000) only [go_sem, simprocAttr, ↓reduceIte, S.ioS, ioRows, ioN, delL, Item.ren, ren, renL, renR_ok, List.length_cons, List.length_nil, List.getElem?_cons_zero, List.getElem?_cons_succ, List.getElem?_nil, List.cons_append, List.nil_append, Nat.reduceAdd, Nat.sub_self, Nat.add_zero, List.filter])
      refine ⟨⟨a1 + 1, !k, o ++ cd, true⟩, Ent.auto0 rfl ?_ ?_, ⟨q3, fun _ => ?_, (by intro h; cases h), fun h => by omega⟩, by dsimp only; omega⟩
      · simp only [go_sem, reduceCtorEq, reduceIte, Nat.reduceEqDiff, Nat.reduceLT, Nat.reduceLeDiff, Int.natCast_succ, cond_true, List.cons_append, List.nil_append, List.append_assoc]
        all_goals first | rfl | omega | (refine ⟨?_, ?_⟩ <;> first | rfl | omega)
      · simp only [go_sem, reduceCtorEq, reduceIte, Nat.reduceEqDiff, Nat.reduceLT, Nat.reduceLeDiff, Int.natCast_succ, cond_true, List.cons_append, List.nil_append, List.append_assoc]
        all_goals first | rfl | omega | (refine ⟨?_, ?_⟩ <;> first | rfl | omega)
      · dsimp only; rw [List.length_append]; omega
    have e : lnStep row above p k = ⟨farC ++ (gamB (a1 - (p - 1) + 1) ++ gamB (a2 - a1 + 1)), a2 + 1, k⟩ := by unfold lnStep; rw [hB1, hB2, hA, if_neg s1, if_neg s2, hA2]
    obtain ⟨q1, q2, q3, q4⟩ := hI0.step hw hr hle hw0 e
    have hmx : max ((p : Int) - 1) 0 = ((p - 1 : Nat) : Int) := by omega
    have g1 := gamma_ok (a1 - (p - 1) + 1) (by omega)
    rw [show ((a1 - (p - 1) + 1 : Nat) : Int) = (a1 : Int) - ((p - 1 : Nat) : Int) + 1 by omega] at g1
    have g2 := gamma_ok (a2 - a1 + 1) (by omega)
    rw [show ((a2 - a1 + 1 : Nat) : Int) = (a2 : Int) - (a1 : Int) + 1 by omega] at g2
    have hs1 := gam_short (n := a1 - (p - 1) + 1) (by omega)
    have hs2 := gam_short (n := a2 - a1 + 1) (by omega)
    generalize gamB (a1 - (p - 1) + 1) = x1 at *
    generalize gamB (a2 - a1 + 1) = x2 at *
    have kw2 := writeUsed_io o (48 :: 48 :: 49 :: (x1 ++ x2)) (by omega) (by simp only [List.length_cons, List.length_append]; omega)
    have hpl : 0 < (farC ++ (x1 ++ x2)).length := by rw [List.length_append]; have : farC.length = 3 := rfl; omega
    by_cases s3 : a1 + 3 < b1
    · have f6 : (-3 ≤ (a1 : Int) - (b1 : Int)) = False := eq_false (by omega)
      (repeat' first | with_reducible (first | intro _ | refine rc ?_ | refine rl ?_ | refine rh ?_ | refine ru ?_ | refine rt ?_ | refine rf ?_ | refine rs ?_ | refine And.intro ?_ ?_) | omega | simp (maxSteps := 1000000) only [go_sem, simprocAttr, ↓reduceIte, f5, f6, hmx])
      refine VcCall.k (g1) ?_
      (repeat' first | with_reducible (first | intro _ | refine rc ?_ | refine rl ?_ | refine rh ?_ | refine ru ?_ | refine rt ?_ | refine rf ?_ | refine rs ?_ | refine And.intro ?_ ?_) | omega | simp (maxSteps := 1000000) only [go_sem, simprocAttr, ↓reduceIte, List.length_append, List.length_cons])
      refine VcCall.k (g2) ?_
      (repeat' first | with_reducible (first | intro _ | refine rc ?_ | refine rl ?_ | refine rh ?_ | refine ru ?_ | refine rt ?_ | refine rf ?_ | refine rs ?_ | refine And.intro ?_ ?_) | omega | simp (maxSteps := 1000000) only [go_sem, simprocAttr, ↓reduceIte, List.length_append, List.length_cons])
      refine VcCall.io [0, 1] kw2 (by decide) (by simp [renL, ren, ioN]) rfl (by simp [subOk, ioN, lk, Item.ren, Item.below, ren, renL, belowL, Fv.below, renR_ok, belowR_ok]) covB2 3 (by decide) rfl (by simp [rowsB, Item.below, Fv.below, belowL, belowR_ok]) ?_
      (repeat' first | with_reducible (first | intro _ | refine rc ?_ | refine rl ?_ | refine rh ?_ | refine ru ?_ | refine rt ?_ | refine rf ?_ | refine rs ?_ | refine And.intro ?_ ?_) | omega | simp (maxSteps := 1000000) only [go_sem, simprocAttr, ↓reduceIte, S.ioS, ioRows, ioN, delL, Item.ren, ren, renL, renR_ok, List.length_cons, List.length_nil, List.getElem?_cons_zero, List.getElem?_cons_succ, List.getElem?_nil, List.cons_append, List.nil_append, Nat.reduceAdd, Nat.sub_self, Nat.add_zero, List.filter])
      refine ⟨⟨a2 + 1, k, o ++ (farC ++ (x1 ++ x2)), true⟩, Ent.auto0 rfl ?_ ?_, ⟨q3, fun _ => ?_, (by intro h; cases h), fun h => by omega⟩, by dsimp only; omega⟩
      · simp only [go_sem, reduceCtorEq, reduceIte, Nat.reduceEqDiff, Nat.reduceLT, Nat.reduceLeDiff, Int.natCast_succ, cond_true, List.cons_append, List.nil_append, List.append_assoc, farC]
        all_goals first | rfl | omega | (refine ⟨?_, ?_⟩ <;> first | rfl | omega)
      · simp only [go_sem, reduceCtorEq, reduceIte, Nat.reduceEqDiff, Nat.reduceLT, Nat.reduceLeDiff, Int.natCast_succ, cond_true, List.cons_append, List.nil_append, List.append_assoc, farC]
        all_goals first | rfl | omega | (refine ⟨?_, ?_⟩ <;> first | rfl | omega)
      · dsimp only; rw [List.length_append]; omega
    · have f6 : (-3 ≤ (a1 : Int) - (b1 : Int)) = True := eq_true (by omega)
      have f7 : ((a1 : Int) - (b1 : Int) ≤ 3) = False := eq_false (by omega)
      (repeat' first | with_reducible (first | intro _ | refine rc ?_ | refine rl ?_ | refine rh ?_ | refine ru ?_ | refine rt ?_ | refine rf ?_ | refine rs ?_ | refine And.intro ?_ ?_) | omega | simp (maxSteps := 1000000) only [go_sem, simprocAttr, ↓reduceIte, f5, f6, f7, hmx])
      refine VcCall.k (g1) ?_
      (repeat' first | with_reducible (first | intro _ | refine rc ?_ | refine rl ?_ | refine rh ?_ | refine ru ?_ | refine rt ?_ | refine rf ?_ | refine rs ?_ | refine And.intro ?_ ?_) | omega | simp (maxSteps := 1000000) only [go_sem, simprocAttr, ↓reduceIte, List.length_append, List.length_cons])
      refine VcCall.k (g2) ?_
      (repeat' first | with_reducible (first | intro _ | refine rc ?_ | refine rl ?_ | refine rh ?_ | refine ru ?_ | refine rt ?_ | refine rf ?_ | refine rs ?_ | refine And.intro ?_ ?_) | omega | simp (maxSteps := 1000000) only [go_sem, simprocAttr, ↓reduceIte, List.length_append, List.length_cons])
      refine VcCall.io [0, 1] kw2 (by decide) (by simp [renL, ren, ioN]) rfl (by simp [subOk, ioN, lk, Item.ren, Item.below, ren, renL, belowL, Fv.below, renR_ok, belowR_ok]) covB2 3 (by decide) rfl (by simp [rowsB, Item.below, Fv.below, belowL, belowR_ok]) ?_
      (repeat' first | with_reducible (first | intro _ | refine rc ?_ | refine rl ?_ | refine rh ?_ | refine ru ?_ | refine rt ?_ | refine rf ?_ | refine rs ?_ | refine And.intro ?_ ?_) | omega | simp (maxSteps := 1000000) only [go_sem, simprocAttr, ↓reduceIte, S.ioS, ioRows, ioN, delL, Item.ren, ren, renL, renR_ok, List.length_cons, List.length_nil, List.getElem?_cons_zero, List.getElem?_cons_succ, List.getElem?_nil, List.cons_append, List.nil_append, Nat.reduceAdd, Nat.sub_self, Nat.add_zero, List.filter])
      refine ⟨⟨a2 + 1, k, o ++ (farC ++ (x1 ++ x2)), true⟩, Ent.auto0 rfl ?_ ?_, ⟨q3, fun _ => ?_, (by intro h; cases h), fun h => by omega⟩, by dsimp only; omega⟩
      · simp only [go_sem, reduceCtorEq, reduceIte, Nat.reduceEqDiff, Nat.reduceLT, Nat.reduceLeDiff, Int.natCast_succ, cond_true, List.cons_append, List.nil_append, List.append_assoc, farC]
        all_goals first | rfl | omega | (refine ⟨?_, ?_⟩ <;> first | rfl | omega)
      · simp only [go_sem, reduceCtorEq, reduceIte, Nat.reduceEqDiff, Nat.reduceLT, Nat.reduceLeDiff, Int.natCast_succ, cond_true, List.cons_append, List.nil_append, List.append_assoc, farC]
        all_goals first | rfl | omega | (refine ⟨?_, ?_⟩ <;> first | rfl | omega)
      · dsimp only; rw [List.length_append]; omega
  | false =>
    simp only [cond_true, cond_false, List.cons_append, List.nil_append]
    obtain ⟨h0a, h0b⟩ := hu2 rfl
    subst h0a
    (repeat' first | with_reducible (first | intro _ | refine rc ?_ | refine rl ?_ | refine rh ?_ | refine ru ?_ | refine rt ?_ | refine rf ?_ | refine rs ?_ | refine And.intro ?_ ?_) | omega | simp (maxSteps := 1000000) only [go_sem, simprocAttr, ↓reduceIte, f1, f2])
    refine VcCall.k (k1) ?_
    (repeat' first | with_reducible (first | intro _ | refine rc ?_ | refine rl ?_ | refine rh ?_ | refine ru ?_ | refine rt ?_ | refine rf ?_ | refine rs ?_ | refine And.intro ?_ ?_) | omega | simp (maxSteps := 1000000) only [go_sem, simprocAttr, ↓reduceIte])
    refine VcCall.k (k2) ?_
    (repeat' first | with_reducible (first | intro _ | refine rc ?_ | refine rl ?_ | refine rh ?_ | refine ru ?_ | refine rt ?_ | refine rf ?_ | refine rs ?_ | refine And.intro ?_ ?_) | omega | simp (maxSteps := 1000000) only [go_sem, simprocAttr, ↓reduceIte])
    refine VcCall.k (k3) ?_
    (repeat' first | with_reducible (first | intro _ | refine rc ?_ | refine rl ?_ | refine rh ?_ | refine ru ?_ | refine rt ?_ | refine rf ?_ | refine rs ?_ | refine And.intro ?_ ?_) | omega | simp (maxSteps := 1000000) only [go_sem, simprocAttr, ↓reduceIte])
    refine VcCall.k (k4) ?_
    by_cases s1 : b2 < a1
    · have f5 : ((b2 : Int) < (a1 : Int)) = True := eq_true (by omega)
      have e : lnStep row above p k = ⟨passC, b2 + 1, k⟩ := by unfold lnStep; rw [hB1, hB2, hA, if_pos s1]
      obtain ⟨q1, q2, q3, q4⟩ := hI0.step hw hr hle hw0 e
      have kw2 := writeFresh_io ([48, 48, 48, 49]) (by decide)
      have hpl : 0 < passC.length := by decide
      (repeat' first | with_reducible (first | intro _ | refine rc ?_ | refine rl ?_ | refine rh ?_ | refine ru ?_ | refine rt ?_ | refine rf ?_ | refine rs ?_ | refine And.intro ?_ ?_) | omega | simp (maxSteps := 1000000) only [go_sem, simprocAttr, ↓reduceIte, f5])
      refine VcCall.io [0] kw2 (by decide) (by simp [renL, ren, ioN]) rfl (by simp [subOk, ioN, lk, Item.ren, Item.below, ren, renL, belowL, Fv.below, renR_ok, belowR_ok]) covB1 2 (by decide) rfl (by simp [rowsB, Item.below, Fv.below, belowL, belowR_ok]) ?_
      (repeat' first | with_reducible (first | intro _ | refine rc ?_ | refine rl ?_ | refine rh ?_ | refine ru ?_ | refine rt ?_ | refine rf ?_ | refine rs ?_ | refine And.intro ?_ ?_) | omega | simp (maxSteps := 1000000) only [go_sem, simprocAttr, ↓reduceIte, S.ioS, ioRows, ioN, delL, Item.ren, ren, renL, renR_ok, List.length_cons, List.length_nil, List.getElem?_cons_zero, List.getElem?_cons_succ, List.getElem?_nil, List.cons_append, List.nil_append, Nat.reduceAdd, Nat.sub_self, Nat.add_zero, List.filter])
      refine ⟨⟨b2 + 1, k, [] ++ passC, true⟩, Ent.auto0 rfl ?_ ?_, ⟨q3, fun _ => ?_, (by intro h; cases h), fun h => by omega⟩, by dsimp only; omega⟩
      · simp only [go_sem, reduceCtorEq, reduceIte, Nat.reduceEqDiff, Nat.reduceLT, Nat.reduceLeDiff, Int.natCast_succ, cond_true, List.cons_append, List.nil_append, List.append_assoc, passC]
        all_goals first | rfl | omega | (refine ⟨?_, ?_⟩ <;> first | rfl | omega)
      · simp only [go_sem, reduceCtorEq, reduceIte, Nat.reduceEqDiff, Nat.reduceLT, Nat.reduceLeDiff, Int.natCast_succ, cond_true, List.cons_append, List.nil_append, List.append_assoc, passC]
        all_goals first | rfl | omega | (refine ⟨?_, ?_⟩ <;> first | rfl | omega)
      · dsimp only; rw [List.length_append]; omega
    have f5 : ((b2 : Int) < (a1 : Int)) = False := eq_false (by omega)
    by_cases s2 : a1 ≤ b1 + 3 ∧ b1 ≤ a1 + 3
    · have f6 : (-3 ≤ (a1 : Int) - (b1 : Int)) = True := eq_true (by omega)
      have f7 : ((a1 : Int) - (b1 : Int) ≤ 3) = True := eq_true (by omega)
      have e : lnStep row above p k = ⟨nearCs.getD (a1 + 3 - b1) [], a1 + 1, !k⟩ := by unfold lnStep; rw [hB1, hB2, hA, if_neg s1, if_pos s2]
      obtain ⟨q1, q2, q3, q4⟩ := hI0.step hw hr hle hw0 e
      have hix : ((a1 : Int) - (b1 : Int) + 3).toNat = a1 + 3 - b1 := by omega
      have hnl : nearCs.length = 7 := rfl
      have hpl := near_pos (k := a1 + 3 - b1) (by omega)
      have kw2 := writeFresh_io (nearCs.getD (a1 + 3 - b1) []) (by omega)
      generalize hcd : nearCs.getD (a1 + 3 - b1) [] = cd at *
      (repeat' first | with_reducible (first | intro _ | refine rc ?_ | refine rl ?_ | refine rh ?_ | refine ru ?_ | refine rt ?_ | refine rf ?_ | refine rs ?_ | refine And.intro ?_ ?_) | omega | simp (maxSteps := 1000000) only [go_sem, simprocAttr, ↓reduceIte, f5, f6, f7])
      refine VcCall.fr (FnFr.of_ok nearCodes_ok rfl rfl) (by simp only [noIdR_ok, argOkL, argOk, allOk, argOkN, List.drop_zero, lk, reduceIte, reduceCtorEq, Nat.reduceEqDiff, Option.some.injEq, Item.row.injEq, Item.box.injEq, AV.ro.injEq, exists_eq_left, exists_and_left, exists_eq_left', exists_eq_right, and_assoc, and_true, true_and, List.cons.injEq, exists_eq', exists_eq]) 1 rfl (by simp [rowsB, Item.below, belowR_ok]) ?_
      (repeat' first | with_reducible (first | intro _ | refine rc ?_ | refine rl ?_ | refine rh ?_ | refine ru ?_ | refine rt ?_ | refine rf ?_ | refine rs ?_ | refine And.intro ?_ ?_) | omega | simp (maxSteps := 1000000) only [go_sem, simprocAttr, ↓reduceIte, renR_ok, hix, hnl, hcd, f6, f7])
      refine VcCall.io [0] kw2 (by decide) (by simp [renL, ren, ioN]) rfl (by simp [subOk, ioN, lk, Item.ren, Item.below, ren, renL, belowL, Fv.below, renR_ok, belowR_ok]) covB1 2 (by decide) rfl (by simp [rowsB, Item.below, Fv.below, belowL, belowR_ok]) ?_
      (repeat' first | with_reducible (first | intro _ | refine rc ?_ | refine rl ?_ | refine rh ?_ | refine ru ?_ | refine rt ?_ | refine rf ?_ | refine rs ?_ | refine And.intro ?_ ?_) | omega | simp (maxSteps := 1000000) only [go_sem, simprocAttr, ↓reduceIte, S.ioS, ioRows, ioN, delL, Item.ren, ren, renL, renR_ok, List.length_cons, List.length_nil, List.getElem?_cons_zero, List.getElem?_cons_succ, List.getElem?_nil, List.cons_append, List.nil_append, Nat.reduceAdd, Nat.sub_self, Nat.add_zero, List.filter])
      refine ⟨⟨a1 + 1, !k, [] ++ cd, true⟩, Ent.auto0 rfl ?_ ?_, ⟨q3, fun _ => ?_, (by intro h; cases h), fun h => by omega⟩, by dsimp only; omega⟩
      · simp only [go_sem, reduceCtorEq, reduceIte, Nat.reduceEqDiff, Nat.reduceLT, Nat.reduceLeDiff, Int.natCast_succ, cond_true, List.cons_append, List.nil_append, List.append_assoc]
        all_goals first | rfl | omega | (refine ⟨?_, ?_⟩ <;> first | rfl | omega)
      · simp only [go_sem, reduceCtorEq, reduceIte, Nat.reduceEqDiff, Nat.reduceLT, Nat.reduceLeDiff, Int.natCast_succ, cond_true, List.cons_append, List.nil_append, List.append_assoc]
        all_goals first | rfl | omega | (refine ⟨?_, ?_⟩ <;> first | rfl | omega)
      · dsimp only; rw [List.length_append]; omega
    have e : lnStep row above p k = ⟨farC ++ (gamB (a1 - (p - 1) + 1) ++ gamB (a2 - a1 + 1)), a2 + 1, k⟩ := by unfold lnStep; rw [hB1, hB2, hA, if_neg s1, if_neg s2, hA2]
    obtain ⟨q1, q2, q3, q4⟩ := hI0.step hw hr hle hw0 e
    have hmx : max ((p : Int) - 1) 0 = ((p - 1 : Nat) : Int) := by omega
    have g1 := gamma_ok (a1 - (p - 1) + 1) (by omega)
    rw [show ((a1 - (p - 1) + 1 : Nat) : Int) = (a1 : Int) - ((p - 1 : Nat) : Int) + 1 by omega] at g1
    have g2 := gamma_ok (a2 - a1 + 1) (by omega)
    rw [show ((a2 - a1 + 1 : Nat) : Int) = (a2 : Int) - (a1 : Int) + 1 by omega] at g2
    have hs1 := gam_short (n := a1 - (p - 1) + 1) (by omega)
    have hs2 := gam_short (n := a2 - a1 + 1) (by omega)
    generalize gamB (a1 - (p - 1) + 1) = x1 at *
    generalize gamB (a2 - a1 + 1) = x2 at *
    have kw2 := writeFresh_io (48 :: 48 :: 49 :: (x1 ++ x2)) (by simp only [List.length_cons, List.length_append]; omega)
    have hpl : 0 < (farC ++ (x1 ++ x2)).length := by rw [List.length_append]; have : farC.length = 3 := rfl; omega
    by_cases s3 : a1 + 3 < b1
    · have f6 : (-3 ≤ (a1 : Int) - (b1 : Int)) = False := eq_false (by omega)
      (repeat' first | with_reducible (first | intro _ | refine rc ?_ | refine rl ?_ | refine rh ?_ | refine ru ?_ | refine rt ?_ | refine rf ?_ | refine rs ?_ | refine And.intro ?_ ?_) | omega | simp (maxSteps := 1000000) only [go_sem, simprocAttr, ↓reduceIte, f5, f6, hmx])
      refine VcCall.k (g1) ?_
      (repeat' first | with_reducible (first | intro _ | refine rc ?_ | refine rl ?_ | refine rh ?_ | refine ru ?_ | refine rt ?_ | refine rf ?_ | refine rs ?_ | refine And.intro ?_ ?_) | omega | simp (maxSteps := 1000000) only [go_sem, simprocAttr, ↓reduceIte, List.length_append, List.length_cons])
      refine VcCall.k (g2) ?_
      (repeat' first | with_reducible (first | intro _ | refine rc ?_ | refine rl ?_ | refine rh ?_ | refine ru ?_ | refine rt ?_ | refine rf ?_ | refine rs ?_ | refine And.intro ?_ ?_) | omega | simp (maxSteps := 1000000) only [go_sem, simprocAttr, ↓reduceIte, List.length_append, List.length_cons])
      refine VcCall.io [0] kw2 (by decide) (by simp [renL, ren, ioN]) rfl (by simp [subOk, ioN, lk, Item.ren, Item.below, ren, renL, belowL, Fv.below, renR_ok, belowR_ok]) covB1 2 (by decide) rfl (by simp [rowsB, Item.below, Fv.below, belowL, belowR_ok]) ?_
      (repeat' first | with_reducible (first | intro _ | refine rc ?_ | refine rl ?_ | refine rh ?_ | refine ru ?_ | refine rt ?_ | refine rf ?_ | refine rs ?_ | refine And.intro ?_ ?_) | omega | simp (maxSteps := 1000000) only [go_sem, simprocAttr, ↓reduceIte, S.ioS, ioRows, ioN, delL, Item.ren, ren, renL, renR_ok, List.length_cons, List.length_nil, List.getElem?_cons_zero, List.getElem?_cons_succ, List.getElem?_nil, List.cons_append, List.nil_append, Nat.reduceAdd, Nat.sub_self, Nat.add_zero, List.filter])
      refine ⟨⟨a2 + 1, k, [] ++ (farC ++ (x1 ++ x2)), true⟩, Ent.auto0 rfl ?_ ?_, ⟨q3, fun _ => ?_, (by intro h; cases h), fun h => by omega⟩, by dsimp only; omega⟩
      · simp only [go_sem, reduceCtorEq, reduceIte, Nat.reduceEqDiff, Nat.reduceLT, Nat.reduceLeDiff, Int.natCast_succ, cond_true, List.cons_append, List.nil_append, List.append_assoc, farC]
        all_goals first | rfl | omega | (refine ⟨?_, ?_⟩ <;> first | rfl | omega)
      · simp only [go_sem, reduceCtorEq, reduceIte, Nat.reduceEqDiff, Nat.reduceLT, Nat.reduceLeDiff, Int.natCast_succ, cond_true, List.cons_append, List.nil_append, List.append_assoc, farC]
        all_goals first | rfl | omega | (refine ⟨?_, ?_⟩ <;> first | rfl | omega)
      · dsimp only; rw [List.length_append]; omega
    · have f6 : (-3 ≤ (a1 : Int) - (b1 : Int)) = True := eq_true (by omega)
      have f7 : ((a1 : Int) - (b1 : Int) ≤ 3) = False := eq_false (by omega)
      (repeat' first | with_reducible (first | intro _ | refine rc ?_ | refine rl ?_ | refine rh ?_ | refine ru ?_ | refine rt ?_ | refine rf ?_ | refine rs ?_ | refine And.intro ?_ ?_) | omega | simp (maxSteps := 1000000) only [go_sem, simprocAttr, ↓reduceIte, f5, f6, f7, hmx])
      refine VcCall.k (g1) ?_
      (repeat' first | with_reducible (first | intro _ | refine rc ?_ | refine rl ?_ | refine rh ?_ | refine ru ?_ | refine rt ?_ | refine rf ?_ | refine rs ?_ | refine And.intro ?_ ?_) | omega | simp (maxSteps := 1000000) only [go_sem, simprocAttr, ↓reduceIte, List.length_append, List.length_cons])
      refine VcCall.k (g2) ?_
      (repeat' first | with_reducible (first | intro _ | refine rc ?_ | refine rl ?_ | refine rh ?_ | refine ru ?_ | refine rt ?_ | refine rf ?_ | refine rs ?_ | refine And.intro ?_ ?_) | omega | simp (maxSteps := 1000000) only [go_sem, simprocAttr, ↓reduceIte, List.length_append, List.length_cons])
      refine VcCall.io [0] kw2 (by decide) (by simp [renL, ren, ioN]) rfl (by simp [subOk, ioN, lk, Item.ren, Item.below, ren, renL, belowL, Fv.below, renR_ok, belowR_ok]) covB1 2 (by decide) rfl (by simp [rowsB, Item.below, Fv.below, belowL, belowR_ok]) ?_
      (repeat' first | with_reducible (first | intro _ | refine rc ?_ | refine rl ?_ | refine rh ?_ | refine ru ?_ | refine rt ?_ | refine rf ?_ | refine rs ?_ | refine And.intro ?_ ?_) | omega | simp (maxSteps := 1000000) only [go_sem, simprocAttr, ↓reduceIte, S.ioS, ioRows, ioN, delL, Item.ren, ren, renL, renR_ok, List.length_cons, List.length_nil, List.getElem?_cons_zero, List.getElem?_cons_succ, List.getElem?_nil, List.cons_append, List.nil_append, Nat.reduceAdd, Nat.sub_self, Nat.add_zero, List.filter])
      refine ⟨⟨a2 + 1, k, [] ++ (farC ++ (x1 ++ x2)), true⟩, Ent.auto0 rfl ?_ ?_, ⟨q3, fun _ => ?_, (by intro h; cases h), fun h => by omega⟩, by dsimp only; omega⟩
      · simp only [go_sem, reduceCtorEq, reduceIte, Nat.reduceEqDiff, Nat.reduceLT, Nat.reduceLeDiff, Int.natCast_succ, cond_true, List.cons_append, List.nil_append, List.append_assoc, farC]
        all_goals first | rfl | omega | (refine ⟨?_, ?_⟩ <;> first | rfl | omega)
      · simp only [go_sem, reduceCtorEq, reduceIte, Nat.reduceEqDiff, Nat.reduceLT, Nat.reduceLeDiff, Int.natCast_succ, cond_true, List.cons_append, List.nil_append, List.append_assoc, farC]
        all_goals first | rfl | omega | (refine ⟨?_, ?_⟩ <;> first | rfl | omega)
      · dsimp only; rw [List.length_append]; omega
end Go.Fv.G

/- Reading a number, step by step. -/
namespace Go.Fv.G
open Go
set_option linter.unusedSimpArgs false
set_option linter.unusedVariables false
set_option linter.unnecessarySimpa false

theorem lead_cons (c : UInt8) (s : Bytes) : leadB (c :: s) = if c = 48 then leadB s + 1 else 0 := by
  unfold leadB
  rw [List.takeWhile_cons]
  by_cases h : c = 48
  · rw [if_pos h, if_pos (by simp [zer, h]), List.length_cons]
  · rw [if_neg h, if_neg (by simp [zer, h])]; rfl
theorem lead_le : ∀ s : Bytes, leadB s ≤ s.length
  | [] => Nat.le_refl _
  | c :: s => by
    have := lead_le s
    rw [lead_cons, List.length_cons]; split <;> omega
theorem lead_at : ∀ (s : Bytes) (i : Nat), i < leadB s → s.getD i 0 = 48
  | [], i, h => by cases h
  | c :: s, i, h => by
    rw [lead_cons] at h
    split at h
    · rename_i hc
      cases i with
      | zero => simpa using hc
      | succ i => simpa using lead_at s i (by omega)
    · omega
theorem lead_stop : ∀ s : Bytes, leadB s < s.length → s.getD (leadB s) 0 ≠ 48
  | [], h => by cases h
  | c :: s, h => by
    rw [lead_cons] at h ⊢
    split
    · rename_i hc
      rw [if_pos hc, List.length_cons] at h
      simpa using lead_stop s (by omega)
    · rename_i hc
      simpa using hc
theorem lead_mem {s : Bytes} (h : 2 * leadB s + 1 ≤ s.length) : ((s.drop (leadB s)).take (leadB s + 1)).length = leadB s + 1 ∧ ((s.drop (leadB s)).take (leadB s + 1)).getD 0 0 = s.getD (leadB s) 0 := by
  refine ⟨by rw [List.length_take, List.length_drop]; omega, ?_⟩
  rw [List.getD_eq_getElem?_getD, List.getElem?_take, if_pos (by omega), List.getElem?_drop, List.getD_eq_getElem?_getD, Nat.add_zero]
theorem d01 {c : UInt8} (h : is01 c = true) : c.toNat - 48 ≤ 1 := by
  have h3 : c = 48 ∨ c = 49 := by simpa [is01] using h
  rcases h3 with rfl | rfl <;> decide
theorem valF_lt : ∀ (l : Bytes) (a : Nat), l.all is01 = true → l.foldl (fun a c => 2 * a + (c.toNat - 48)) a + 1 ≤ (a + 1) * 2 ^ l.length
  | [], a, _ => by simp
  | c :: l, a, h => by
    rw [List.all_cons, Bool.and_eq_true] at h
    have h1 := d01 h.1
    have h2 := valF_lt l (2 * a + (c.toNat - 48)) h.2
    rw [List.foldl_cons, List.length_cons, Nat.pow_succ]
    have h3 : (2 * a + (c.toNat - 48) + 1) * 2 ^ l.length ≤ (2 * (a + 1)) * 2 ^ l.length := Nat.mul_le_mul_right _ (by omega)
    have h4 : 2 * (a + 1) * 2 ^ l.length = (a + 1) * (2 ^ l.length * 2) := by rw [Nat.mul_comm 2, Nat.mul_assoc, Nat.mul_comm 2]
    omega
theorem valB_lt (l : Bytes) (h : l.all is01 = true) : valB l < 2 ^ l.length := by
  have := valF_lt l 0 h
  unfold valB
  omega
theorem valB_take {l : Bytes} {p : Nat} (h : p < l.length) : valB (l.take (p + 1)) = 2 * valB (l.take p) + ((l.getD p 0).toNat - 48) := by
  rw [List.take_succ_eq_append_getElem h, valB_snoc]
  simp [List.getD, h]
theorem all_take {l : Bytes} {p : Nat} (h : p < l.length) : (l.take (p + 1)).all is01 = ((l.take p).all is01 && is01 (l.getD p 0)) := by
  rw [List.take_succ_eq_append_getElem h, List.all_append]
  simp [List.getD, h]
theorem all_at {l : Bytes} {p : Nat} (h : p < l.length) (ha : l.all is01 = true) : l.getD p 0 = 48 ∨ l.getD p 0 = 49 := by
  have := List.all_eq_true.1 ha (l.getD p 0) (by simp [List.getD, h])
  simpa [is01] using this
theorem is01_n (c : UInt8) : is01 c = decide (c.toNat = 48 ∨ c.toNat = 49) := by
  unfold is01
  have e1 : c = 48 ↔ c.toNat = 48 := UInt8.toNat_inj.symm
  have e2 : c = 49 ↔ c.toNat = 49 := UInt8.toNat_inj.symm
  simp only [e1, e2]
theorem valB_one {c : UInt8} {l : Bytes} (h : (c :: l).getD 0 0 = 49) : 1 ≤ valB (c :: l) := by
  have hc : c = 49 := by simpa using h
  subst hc
  have hm : ∀ (l : Bytes) (a : Nat), 1 ≤ a → 1 ≤ l.foldl (fun a c => 2 * a + (c.toNat - 48)) a := by
    intro l
    induction l with
    | nil => intro a h; exact h
    | cons d l ih => intro a h; rw [List.foldl_cons]; exact ih _ (by omega)
  exact hm l _ (by decide)
/-- What cannot be read. -/
theorem rdG_none {s : Bytes} (h : ¬ (leadB s ≤ 20 ∧ 2 * leadB s + 1 ≤ s.length ∧ ((s.drop (leadB s)).take (leadB s + 1)).all is01 = true ∧ valB ((s.drop (leadB s)).take (leadB s + 1)) ≤ 1048576)) : rdG s = none := by
  unfold rdG; rw [if_neg h]
theorem rdG_some {s : Bytes} (h : leadB s ≤ 20 ∧ 2 * leadB s + 1 ≤ s.length ∧ ((s.drop (leadB s)).take (leadB s + 1)).all is01 = true ∧ valB ((s.drop (leadB s)).take (leadB s + 1)) ≤ 1048576) :
    rdG s = some (valB ((s.drop (leadB s)).take (leadB s + 1)), 2 * leadB s + 1) := by
  unfold rdG; rw [if_pos h]
/-- The three that come back. -/
def rdN (s : Bytes) : Int := match rdG s with | some (n, _) => n | none => 0
def rdL (s : Bytes) : Int := match rdG s with | some (_, m) => m | none => 0
def rdE (e : Int) (s : Bytes) : Int := match rdG s with | some _ => 0 | none => e
end Go.Fv.G

/- strconv.ParseInt in base 2. -/
namespace Go.Fv.G
open Go Go.Proofs
set_option linter.unusedSimpArgs false
set_option linter.unusedVariables false
set_option linter.unnecessarySimpa false
set_option maxRecDepth 8000

theorem bIs_len (l : Bytes) : (byteInts l).length = l.length := by unfold byteInts; rw [List.length_map]
theorem bIs_get {b : Bytes} {i : Nat} (h : i < b.length) : (byteInts b).getD i 0 = ((b.getD i 0).toNat : Int) := by
  unfold byteInts
  simp [List.getD, h]
set_option maxHeartbeats 4000000 in
theorem parseU_ok (l : Bytes) (h1 : l.all is01 = true) (h0 : l ≠ []) (hl : l.length ≤ 21) :
    FnOk Tryd.prog 58 [.str l, .int .i64 2, .int .i64 64] (.tup [.int .u64 (valB l), .raw .nilIface]) [] := by
  have hv := valB_lt l h1
  refine FnOk.of_vc Tryd.func58 rfl (by decide) (by simp [Tryd.f58]) [.tmp 6, .tmp 7] rfl fun w0 T0 _ => ?_
  simp only [Tryd.f58, argEnv]
  (repeat' first | with_reducible (first | intro _ | refine rc ?_ | refine rl ?_ | refine rh ?_ | refine ru ?_ | refine rt ?_ | refine rf ?_ | refine rs ?_ | refine And.intro ?_ ?_) | omega | simp (maxSteps := 1000000) only [go_sem, simprocAttr, ↓reduceIte, h0])
  refine LetW.at 0 (by decide) ?_
  refine LetW.at 18446744073709551615 (by decide) ?_
  (repeat' first | with_reducible (first | intro _ | refine rc ?_ | refine rl ?_ | refine rh ?_ | refine ru ?_ | refine rt ?_ | refine rf ?_ | refine rs ?_ | refine And.intro ?_ ?_) | omega | simp (maxSteps := 1000000) only [go_sem, simprocAttr, ↓reduceIte])
  have hbl := bIs_len l
  refine VcLoop.intro (fun i : Nat => ⟨172, [(101, .int .i64 i), (100, .int .i64 l.length), (99, .own 0), (13, .int .u64 (valB (l.take i))), (12, .bool false), (11, .int .u64 18446744073709551615), (10, .int .u64 9223372036854775808), (9, .str l), (8, .bool false), (0, .str l), (1, .int .i64 2), (2, .int .i64 64)], [(0, .row 5 (.ints .u8 (byteInts l)))], 1⟩) (fun i => i ≤ l.length) (fun i => l.length - i) 0 ?_ (Nat.zero_le _) fun i hi => ?_
  · refine Ent.auto0 rfl ?_ ?_ <;> simp only [go_sem, reduceCtorEq, reduceIte, Nat.reduceEqDiff, Nat.reduceLT, Nat.reduceLeDiff, Int.natCast_succ, hbl]
    rfl
  have hcut : l.take l.length = l := List.take_length
  by_cases hlt : i < l.length
  · have hb : (byteInts l).getD i 0 = ((l.getD i 0).toNat : Int) := bIs_get hlt
    have hs := valB_take hlt
    have ha := all_at hlt h1
    have hv2 := valB_lt (l.take (i + 1)) (by rw [List.all_eq_true] at h1 ⊢; intro x hx; exact h1 x (List.mem_of_mem_take hx))
    have hp : (2 : Nat) ^ (l.take (i + 1)).length ≤ 2 ^ 21 := Nat.pow_le_pow_right (by decide) (by rw [List.length_take]; omega)
    rw [show (2 : Nat) ^ 21 = 2097152 from rfl] at hp
    have hc : (l.getD i 0).toNat = 48 ∨ (l.getD i 0).toNat = 49 := by rcases ha with e | e <;> rw [e] <;> decide
    generalize l.getD i 0 = c at *
    generalize valB (l.take i) = v at *
    have hcc : ((c.toNat : Nat) : Int) - 48 = ((c.toNat - 48 : Nat) : Int) := by omega
    generalize c.toNat = cn at *
    have f1 : ((cn : Int) = 95) = False := eq_false (by omega)
    have f2 : (48 ≤ (cn : Int)) = True := eq_true (by omega)
    have f3 : ((cn : Int) ≤ 57) = True := eq_true (by omega)
    (repeat' first | with_reducible (first | intro _ | refine rc ?_ | refine rl ?_ | refine rh ?_ | refine ru ?_ | refine rt ?_ | refine rf ?_ | refine rs ?_ | refine And.intro ?_ ?_) | omega | simp (maxSteps := 1000000) only [go_sem, simprocAttr, ↓reduceIte, hb, hbl, f1, f2, f3])
    refine ⟨i + 1, Ent.auto0 rfl ?_ ?_, by omega, by omega⟩ <;> simp only [go_sem, reduceCtorEq, reduceIte, Nat.reduceEqDiff, Nat.reduceLT, Nat.reduceLeDiff, Int.natCast_succ, hs]
    all_goals omega
  · have e : i = l.length := by omega
    subst e
    rw [hcut]
    (repeat' first | with_reducible (first | intro _ | refine rc ?_ | refine rl ?_ | refine rh ?_ | refine ru ?_ | refine rt ?_ | refine rf ?_ | refine rs ?_ | refine And.intro ?_ ?_) | omega | simp (maxSteps := 1000000) only [go_sem, simprocAttr, ↓reduceIte, hbl])
    refine Ret.auto 0 ?_ rfl ?_ <;> simp only [go_sem, reduceCtorEq, reduceIte, Nat.reduceEqDiff, Nat.reduceLT, Nat.reduceLeDiff, Int.natCast_succ, Post]
theorem parse0_ok (l : Bytes) (h1 : l.all is01 = true) (h0 : l ≠ []) (hl : l.length ≤ 21) :
    FnOk Tryd.prog 38 [.str l, .int .i64 2, .int .i64 64] (.tup [.int .i64 (valB l), .raw .nilIface]) [] := by
  have k := parseU_ok l h1 h0 hl
  have hv := valB_lt l h1
  have hp : (2 : Nat) ^ l.length ≤ 2 ^ 21 := Nat.pow_le_pow_right (by decide) hl
  rw [show (2 : Nat) ^ 21 = 2097152 from rfl] at hp
  have hlen : 0 < l.length := List.length_pos_iff.2 h0
  have ha := all_at hlen h1
  have hc : (l.getD 0 0).toNat = 48 ∨ (l.getD 0 0).toNat = 49 := by rcases ha with e | e <;> rw [e] <;> decide
  generalize valB l = v at *
  have f1 : (((l.getD 0 0).toNat : Int) = 43) = False := eq_false (by omega)
  have f2 : (((l.getD 0 0).toNat : Int) = 45) = False := eq_false (by omega)
  refine FnOk.of_vc Tryd.func38 rfl (by decide) (by simp [Tryd.f38]) [.tmp 6, .tmp 7] rfl fun w0 T0 _ => ?_
  simp only [Tryd.f38, argEnv]
  (repeat' first | with_reducible (first | intro _ | refine rc ?_ | refine rl ?_ | refine rh ?_ | refine ru ?_ | refine rt ?_ | refine rf ?_ | refine rs ?_ | refine And.intro ?_ ?_) | omega | simp (maxSteps := 1000000) only [go_sem, simprocAttr, ↓reduceIte, h0, f1, f2])
  refine VcCall.k (k) ?_
  (repeat' first | with_reducible (first | intro _ | refine rc ?_ | refine rl ?_ | refine rh ?_ | refine ru ?_ | refine rt ?_ | refine rf ?_ | refine rs ?_ | refine And.intro ?_ ?_) | omega | simp (maxSteps := 1000000) only [go_sem, simprocAttr, ↓reduceIte])
  refine LetW.at 9223372036854775808 (by decide) ?_
  (repeat' first | with_reducible (first | intro _ | refine rc ?_ | refine rl ?_ | refine rh ?_ | refine ru ?_ | refine rt ?_ | refine rf ?_ | refine rs ?_ | refine And.intro ?_ ?_) | omega | simp (maxSteps := 1000000) only [go_sem, simprocAttr, ↓reduceIte])
  refine Ret.auto 0 ?_ rfl ?_ <;> simp only [go_sem, reduceCtorEq, reduceIte, Nat.reduceEqDiff, Nat.reduceLT, Nat.reduceLeDiff, Int.natCast_succ, Post]
theorem parseI_ok (l : Bytes) (h1 : l.all is01 = true) (h0 : l ≠ []) (hl : l.length ≤ 21) :
    FnOk Tryd.prog 18 [.str l, .int .i64 2, .int .i64 64] (.tup [.int .i64 (valB l), .raw .nilIface]) [] := by
  have k := parse0_ok l h1 h0 hl
  refine FnOk.of_vc Tryd.func18 rfl (by decide) (by simp [Tryd.f18]) [.tmp 6, .tmp 7] rfl fun w0 T0 _ => ?_
  simp only [Tryd.f18, argEnv]
  (repeat' first | with_reducible (first | intro _ | refine rc ?_ | refine rl ?_ | refine rh ?_ | refine ru ?_ | refine rt ?_ | refine rf ?_ | refine rs ?_ | refine And.intro ?_ ?_) | omega | simp (maxSteps := 1000000) only [go_sem, simprocAttr, ↓reduceIte])
  refine VcCall.k (k) ?_
  (repeat' first | with_reducible (first | intro _ | refine rc ?_ | refine rl ?_ | refine rh ?_ | refine ru ?_ | refine rt ?_ | refine rf ?_ | refine rs ?_ | refine And.intro ?_ ?_) | omega | simp (maxSteps := 1000000) only [go_sem, simprocAttr, ↓reduceIte])
  refine Ret.auto 0 ?_ rfl ?_ <;> simp only [go_sem, reduceCtorEq, reduceIte, Nat.reduceEqDiff, Nat.reduceLT, Nat.reduceLeDiff, Int.natCast_succ, Post]
end Go.Fv.G

namespace Go.Fv.G
open Go Go.Proofs
set_option linter.unusedSimpArgs false
set_option linter.unusedVariables false
set_option maxRecDepth 8000
theorem drop_bools {tab : List Bool} {n : Nat} (h : n < tab.length) : (tab.map AV.bool).drop n = .bool (tab.getD n false) :: (tab.map AV.bool).drop (n + 1) := by
  rw [List.drop_eq_getElem_cons (by simpa using h)]
  simp [List.getD, h]

set_option maxHeartbeats 1000000 in
theorem contains_ok (tab : List Bool) (b : Int) (hl : tab.length = 256) (h0 : 0 ≤ b) (h1 : b < 256) : FnOk Tryd.prog 54 [.cell (tab.map .bool), .int .u8 b] (.bool (tab.getD b.toNat false)) [] := by
  refine FnOk.of_vc Tryd.func54 rfl (by decide) (by simp [Tryd.f54]) [.tmp 4] rfl fun w0 T0 _ => ?_
  simp only [Tryd.f54, argEnv]
  have hd := drop_bools (tab := tab) (n := b.toNat) (by omega)
  simp (maxSteps := 1000000) only [go_sem, reduceCtorEq, Nat.reduceLT, Nat.reduceLeDiff, reduceIte, ↓reduceIte, Nat.reduceEqDiff, Nat.reduceAdd, Nat.reduceMul, Nat.reduceSub, Int.reduceLE, Int.reduceLT, Int.reduceNeg, Int.reduceToNat, Nat.mul_one, hd]
  (repeat' first | (with_reducible refine Asm.intro fun _ => ?_) | ((with_reducible refine Chk.intro ?_ ?_); (· first | omega | (with_reducible refine Chk.intro ?_ ?_ <;> omega) | (simp; done) | (simp; omega))) | ((with_reducible refine LetW.i64 ?_ ?_ ?_); (· omega); (· omega)) | ((with_reducible refine Ite.decide (fun _ => ?_) (fun _ => ?_)) <;> first | (exfalso; omega) | simp (maxSteps := 1000000) only [go_sem, reduceCtorEq, Nat.reduceLT, Nat.reduceLeDiff, reduceIte, ↓reduceIte, Nat.reduceEqDiff, Nat.reduceAdd, Nat.reduceMul, Nat.reduceSub, Int.reduceLE, Int.reduceLT, Int.reduceNeg, Int.reduceToNat]) | ((with_reducible refine Ite.bool (fun _ => ?_) (fun _ => ?_)) <;> simp (maxSteps := 1000000) only [go_sem, reduceCtorEq, Nat.reduceLT, Nat.reduceLeDiff, reduceIte, ↓reduceIte, Nat.reduceEqDiff, Nat.reduceAdd, Nat.reduceMul, Nat.reduceSub, Int.reduceLE, Int.reduceLT, Int.reduceNeg, Int.reduceToNat]) | (with_reducible refine And.intro ?_ ?_))
  refine Ret.auto 0 ?_ rfl ?_ <;> simp only [go_sem, reduceCtorEq, reduceIte, Nat.reduceEqDiff, Nat.reduceLT, Nat.reduceLeDiff, Int.natCast_succ, Post]

theorem z58 : zeroOf Tryd.prog 58 = some (.agg (Array.replicate 256 (.bool false))) := by kernel_rfl
theorem c58 : Tryd.prog.cellsOf 58 = 256 := by kernel_rfl

attribute [go_sem] z58 c58
def asciiAt (s : List UInt8) : Nat → List Bool
  | 0 => List.replicate 256 false
  | i + 1 => (asciiAt s i).set (s.getD i 0).toNat true
theorem asciiAt_len (s : List UInt8) : ∀ i, (asciiAt s i).length = 256
  | 0 => by simp [asciiAt]
  | i + 1 => by simp [asciiAt, asciiAt_len s i]

set_option maxHeartbeats 1000000 in
theorem makeAscii_ok (s : List UInt8) (hs : ∀ i, i < s.length → (s.getD i 0).toNat < 128) : FnOk Tryd.prog 33 [.str s] (.tup [.agg ((asciiAt s s.length).map .bool), .bool true]) [] := by
  refine FnOk.of_vc Tryd.func33 rfl (by decide) (by simp [Tryd.f33]) [.cell 2 58, .tmp 3] rfl fun w0 T0 _ => ?_
  simp only [Tryd.f33, argEnv]
  simp (maxSteps := 1000000) only [go_sem, reduceCtorEq, Nat.reduceLT, Nat.reduceLeDiff, reduceIte, ↓reduceIte, Nat.reduceEqDiff, Nat.reduceAdd, Nat.reduceMul, Nat.reduceSub, Int.reduceLE, Int.reduceLT, Int.reduceNeg, Int.reduceToNat]
  refine VcLoop.intro (fun i : Nat => ⟨21, [(0, .str s), (2, .ptr 0 0), (4, .int .i64 i)], [(0, .box 58 ((asciiAt s i).map .bool))], 1⟩) (fun i => i ≤ s.length) (fun i => s.length - i) 0 ?_ (Nat.zero_le _) fun i hi => ?_
  · refine Ent.auto0 rfl ?_ ?_ <;> simp only [go_sem, reduceCtorEq, reduceIte, Nat.reduceEqDiff, Nat.reduceLT, Nat.reduceLeDiff, Int.natCast_succ, asciiAt]
  have hlen := asciiAt_len s i
  simp (maxSteps := 1000000) only [go_sem, reduceCtorEq, Nat.reduceLT, Nat.reduceLeDiff, reduceIte, ↓reduceIte, Nat.reduceEqDiff, Nat.reduceAdd, Nat.reduceMul, Nat.reduceSub, Int.reduceLE, Int.reduceLT, Int.reduceNeg, Int.reduceToNat]
  (repeat' first | (with_reducible refine Asm.intro fun _ => ?_) | ((with_reducible refine Chk.intro ?_ ?_); (· first | omega | (with_reducible refine Chk.intro ?_ ?_ <;> omega) | (simp; done) | (simp; omega))) | ((with_reducible refine LetW.i64 ?_ ?_ ?_); (· omega); (· omega)) | ((with_reducible refine Ite.decide (fun _ => ?_) (fun _ => ?_)) <;> first | (exfalso; omega) | simp (maxSteps := 1000000) only [go_sem, reduceCtorEq, Nat.reduceLT, Nat.reduceLeDiff, reduceIte, ↓reduceIte, Nat.reduceEqDiff, Nat.reduceAdd, Nat.reduceMul, Nat.reduceSub, Int.reduceLE, Int.reduceLT, Int.reduceNeg, Int.reduceToNat]) | ((with_reducible refine Ite.bool (fun _ => ?_) (fun _ => ?_)) <;> simp (maxSteps := 1000000) only [go_sem, reduceCtorEq, Nat.reduceLT, Nat.reduceLeDiff, reduceIte, ↓reduceIte, Nat.reduceEqDiff, Nat.reduceAdd, Nat.reduceMul, Nat.reduceSub, Int.reduceLE, Int.reduceLT, Int.reduceNeg, Int.reduceToNat]) | (with_reducible refine And.intro ?_ ?_))
  · have := hs i (by omega)
    omega
  · refine ⟨i + 1, Ent.auto0 rfl ?_ ?_, by omega, by omega⟩
    · simp only [go_sem, reduceCtorEq, reduceIte, Nat.reduceEqDiff, Nat.reduceLT, Nat.reduceLeDiff, Int.natCast_succ]
    · simp only [go_sem, reduceCtorEq, reduceIte, Nat.reduceEqDiff, Nat.reduceLT, Nat.reduceLeDiff, Int.natCast_succ, asciiAt]
  · have e : i = s.length := by omega
    subst e
    have e2 : ((asciiAt s s.length).map AV.bool).take 256 = (asciiAt s s.length).map AV.bool := List.take_of_length_le (by simp [hlen])
    have e3 : spl ((asciiAt s s.length).map AV.bool) 0 ((asciiAt s s.length).map AV.bool) = (asciiAt s s.length).map AV.bool := spl_all rfl
    refine Ret.auto 0 ?_ ?_ ?_ <;> simp only [go_sem, reduceCtorEq, reduceIte, Nat.reduceEqDiff, Nat.reduceLT, Nat.reduceLeDiff, Int.natCast_succ, Post, e2, e3, List.drop_zero]
    simp (maxSteps := 1000000) only [go_sem, reduceCtorEq, Nat.reduceLT, Nat.reduceLeDiff, reduceIte, ↓reduceIte, Nat.reduceEqDiff, Nat.reduceAdd, Nat.reduceMul, Nat.reduceSub, Int.reduceLE, Int.reduceLT, Int.reduceNeg, Int.reduceToNat, e2, hlen, List.length_map]

def cutset : List UInt8 := [97, 98, 99, 100, 101, 102, 103, 104, 105, 106, 107, 108, 109, 110, 111, 112, 113, 114, 115, 116, 117, 118, 119, 120, 121, 122, 48, 49, 50, 51, 52, 53, 54, 55, 56, 57, 45]
theorem cut_small : ∀ i, i < cutset.length → (cutset.getD i 0).toNat < 128 := by decide
end Go.Fv.G
