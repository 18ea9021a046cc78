/-
  A part of the proof of the claim: walks over the program's functions and the plain laws that these need. No condition of its own.
-/
import Derived.Test.YtmdaiceacfgkpaaGreatDoorYCorrectsCardPart10
import Derived.Test.YtmdaiceacfgkpaaGreatDoorFvPart10
import Derived.Test.YtmdaiceacfgkpaaGreatDoorYCorrectsCardPart9
import Derived.Test.YtmdaiceacfgkpaaGreatDoorYCorrectsCardPart3
import Derived.Sort.Walk0
import Derived.Test.YtmdaiceacfgkpaaGreatDoorYCorrectsCardPart5
/- strings.Builder: what its methods do to a caller's builder. -/
namespace Go.Fv.Y
open Go Go.Proofs
set_option linter.unusedSimpArgs false
set_option linter.unusedVariables false
set_option linter.unnecessarySimpa false
set_option maxRecDepth 8000

theorem lk1 {a it : Item} {i : Nat} (h : lk [(0, a)] i = some it) : i = 0 ∧ it = a := by
  simp only [lk] at h
  split at h
  · rename_i e; exact ⟨e.symm, (Option.some.inj h).symm⟩
  · cases h
theorem lk2 {a b it : Item} {i : Nat} (h : lk [(0, a), (1, b)] i = some it) : (i = 0 ∧ it = a) ∨ (i = 1 ∧ it = b) := by
  simp only [lk] at h
  split at h
  · rename_i e; exact .inl ⟨e.symm, (Option.some.inj h).symm⟩
  · split at h
    · rename_i e; exact .inr ⟨e.symm, (Option.some.inj h).symm⟩
    · cases h
theorem copyFresh_io : FnIO Tryz.prog 100 [.ptr 0 0] [(0, .box 100 [.raw (.pointer none), .nilS])] 1 (.tup []) [(0, .box 100 [.ptr 0 0, .nilS])] := by
  refine ⟨⟨_, Tryz.func100, by kernel_rfl, by kernel_rfl⟩, fun w T g m0 vals ⟨hrow, _, hd⟩ hgl hng hv => ?_⟩
  obtain ⟨_, g0, vs, hm, hO, hl, hh⟩ := hrow 0 _ rfl
  cases hv with
  | cons _ v0 _ vs0 h0 hvs =>
  cases hvs
  cases h0 with
  | ptr _ _ gp hi hg =>
  have hg : blk (m0 0) = some gp := hg
  rw [hm] at hg
  cases hg
  cases hl with
  | cons _ a _ _ ha _ hl =>
  cases ha
  cases hl with
  | cons _ b _ _ hb _ hl =>
  cases hb
  cases hl
  have hh' : w.heap[g0]? = some (.cells #[.pointer none, .slice none 0 0] 100 (0, 0)) := hh
  refine (copyFresh g0 w (by simp [World.cell?, hh']) (by simp [World.shape?, hh']) (by simp [World.frozen?, hh'])).mono ?_
  rintro e w' ⟨rfl, rfl⟩
  refine ⟨_, rfl, ⟨rfl, rfl, rfl, by simp [World.setCell], Nat.le_refl _, fun k hk hn => setCell_other' w g0 k _ fun e => hn (e ▸ hO)⟩, m0, 1, fun _ _ => rfl, Nat.le_refl _, .tup [] [] .nil, fun i it hi => ?_, fun i j it jt b hi hj _ _ => ?_⟩
  · obtain ⟨rfl, rfl⟩ := lk1 hi
    refine ⟨Nat.one_pos, g0, [.pointer (some ⟨g0, 0, none⟩), .slice none 0 0], hm, .inr ⟨hO, .inr hO⟩, ?_, setCell_same w g0 _ _ _ _ hh'⟩
    exact .cons _ _ _ _ (.ptr 0 0 g0 Nat.one_pos (by show blk (m0 0) = some g0; rw [hm]; rfl)) rfl (.cons _ _ _ _ .nilS rfl .nil)
  · rw [(lk1 hi).1, (lk1 hj).1]
theorem copyUsed_io (e : TypeId) (l : List Int) : FnIO Tryz.prog 100 [.ptr 0 0] [(0, .box 100 [.ptr 0 0, .own 1]), (1, .row e (.ints .u8 l))] 2 (.tup []) [(0, .box 100 [.ptr 0 0, .own 1]), (1, .row e (.ints .u8 l))] := by
  refine ⟨⟨_, Tryz.func100, by kernel_rfl, by kernel_rfl⟩, fun w T g m0 vals ⟨hrow, hsep, hd⟩ hgl hng hv => ?_⟩
  obtain ⟨_, g0, vs, hm, hO, hl, hh⟩ := hrow 0 _ rfl
  obtain ⟨_, n, cells, hr, hn, how, hO2⟩ := hrow 1 _ rfl
  cases hv with
  | cons _ v0 _ vs0 h0 hvs =>
  cases hvs
  cases h0 with
  | ptr _ _ gp hi hg =>
  have hg : blk (m0 0) = some gp := hg
  rw [hm] at hg
  cases hg
  cases hl with
  | cons _ a _ _ ha _ hl =>
  cases ha with
  | ptr _ _ ga _ hga =>
  have hga : blk (m0 0) = some ga := hga
  rw [hm] at hga
  cases hga
  cases hl with
  | cons _ b _ _ hb hb1 hl =>
  cases hl
  have hh' : w.heap[g0]? = some (.cells #[.pointer (some ⟨g0, 0, none⟩), b] 100 (0, 0)) := hh
  refine (copyUsed g0 w (by simp [World.cell?, hh'])).mono ?_
  rintro e w' ⟨rfl, rfl⟩
  refine ⟨_, rfl, BelowG.refl _ _, m0, 2, fun _ _ => rfl, Nat.le_refl _, .tup [] [] .nil, fun i it hi => ?_, fun i j it jt b hi hj h1 h2 => ?_⟩
  · rcases lk2 hi with ⟨rfl, rfl⟩ | ⟨rfl, rfl⟩
    · refine ⟨by decide, g0, [.pointer (some ⟨g0, 0, none⟩), b], hm, .inr ⟨hO, .inr hO⟩, ?_, hh'⟩
      cases hb with
      | own _ h5 h6 => exact .cons _ _ _ _ (.ptr 0 0 g0 (show 0 < 2 by decide) (by show blk (m0 0) = some g0; rw [hm]; rfl)) rfl (.cons _ _ _ _ (.own 1 (show 1 < 2 by decide) h6) hb1 .nil)
    · refine ⟨by decide, n, cells, ?_, hn, how, fun b hb => .inr ⟨hO2 b hb, .inr (hO2 b hb)⟩⟩
      cases hr with
      | ints _ _ h7 => exact .ints _ _ h7
  · exact hsep i j it jt b hi hj h1 h2
theorem covB2 {a b : Item} : ∀ j, j < 2 → ∃ it, lk [(0, a), (1, b)] j = some it := fun j hj => by
  have : j = 0 ∨ j = 1 := by omega
  rcases this with rfl | rfl
  · exact ⟨a, rfl⟩
  · exact ⟨b, rfl⟩
theorem covB1 {a : Item} : ∀ j, j < 1 → ∃ it, lk [(0, a)] j = some it := fun j hj => by
  obtain rfl : j = 0 := by omega
  exact ⟨a, rfl⟩
set_option maxHeartbeats 2000000 in
theorem writeFresh_io (s : List UInt8) (hs : s.length ≤ 100000000000) : FnIO Tryz.prog 63 [.ptr 0 0, .str s] [(0, .box 100 [.raw (.pointer none), .nilS])] 1 (.tup [.int .i64 s.length, .raw .nilIface]) [(0, .box 100 [.ptr 0 0, .own 1]), (1, .row 5 (.ints .u8 (byteInts s)))] := by
  have k := copyFresh_io
  refine FnIO.of_vc Tryz.func63 rfl (by decide) (by simp [Tryz.f63]) covB1 [.tmp 4, .tmp 5] rfl fun w0 T0 _ => ?_
  simp only [Tryz.f63, argEnv]
  (repeat' first | with_reducible (first | intro _ | refine rc ?_ | refine rl ?_ | refine rh ?_ | refine rt ?_ | refine rf ?_ | refine rs ?_ | refine And.intro ?_ ?_) | omega | simp (maxSteps := 1000000) only [go_sem, simprocAttr, ↓reduceIte])
  refine VcCall.io [0] k (by decide) (by simp [renL, ren, ioN]) rfl (by simp [subOk, ioN, lk, Item.ren, Item.below, ren, renL, belowL, Fv.below]) covB1 1 (by decide) rfl (by simp [rowsB, Item.below, Fv.below, belowL]) ?_
  (repeat' first | with_reducible (first | intro _ | refine rc ?_ | refine rl ?_ | refine rh ?_ | refine rt ?_ | refine rf ?_ | refine rs ?_ | refine And.intro ?_ ?_) | omega | simp (maxSteps := 1000000) only [go_sem, simprocAttr, ↓reduceIte, S.ioS, ioRows, ioN, delL, Item.ren, ren, renL, List.length_cons, List.length_nil, List.getElem?_cons_zero, List.getElem?_cons_succ, List.getElem?_nil, List.cons_append, List.nil_append, Nat.reduceAdd, Nat.sub_self, Nat.add_zero, List.filter, zrow])
  refine RetK.of [(1, 2)] 3 (by decide) (by decide) ?_ rfl ?_ <;> simp only [go_sem, reduceCtorEq, reduceIte, Nat.reduceEqDiff, Nat.reduceLT, Nat.reduceLeDiff, Int.natCast_succ, byteInts, renR_ok, belowR_ok]
set_option maxHeartbeats 2000000 in
theorem writeUsed_io (b s : List UInt8) (hb : b.length ≤ 100000000000) (hs : s.length ≤ 10000000000) : FnIO Tryz.prog 63 [.ptr 0 0, .str s] [(0, .box 100 [.ptr 0 0, .own 1]), (1, .row 5 (.ints .u8 (byteInts b)))] 2 (.tup [.int .i64 s.length, .raw .nilIface]) [(0, .box 100 [.ptr 0 0, .own 2]), (2, .row 5 (.ints .u8 (byteInts (b ++ s))))] := by
  have k := copyUsed_io 5 (byteInts b)
  have hbl := byteInts_len b
  have he : byteInts (b ++ s) = byteInts b ++ s.map (fun b => (b.toNat : Int)) := by unfold byteInts; rw [List.map_append]
  generalize byteInts b = B at *
  generalize byteInts (b ++ s) = C at *
  refine FnIO.of_vc Tryz.func63 rfl (by decide) (by simp [Tryz.f63]) covB2 [.tmp 4, .tmp 5] rfl fun w0 T0 _ => ?_
  simp only [Tryz.f63, argEnv]
  (repeat' first | with_reducible (first | intro _ | refine rc ?_ | refine rl ?_ | refine rh ?_ | refine rt ?_ | refine rf ?_ | refine rs ?_ | refine And.intro ?_ ?_) | omega | simp (maxSteps := 1000000) only [go_sem, simprocAttr, ↓reduceIte])
  refine VcCall.io [0, 1] k (by decide) (by simp [renL, ren, ioN]) rfl (by simp [subOk, ioN, lk, Item.ren, Item.below, ren, renL, belowL, Fv.below, renR_ok, belowR_ok]) covB2 2 (by decide) rfl (by simp [rowsB, Item.below, Fv.below, belowL, belowR_ok]) ?_
  (repeat' first | with_reducible (first | intro _ | refine rc ?_ | refine rl ?_ | refine rh ?_ | refine rt ?_ | refine rf ?_ | refine rs ?_ | refine And.intro ?_ ?_) | omega | simp (maxSteps := 1000000) only [go_sem, simprocAttr, ↓reduceIte, S.ioS, ioRows, ioN, delL, Item.ren, ren, renL, renR_ok, List.length_cons, List.length_nil, List.getElem?_cons_zero, List.getElem?_cons_succ, List.getElem?_nil, List.cons_append, List.nil_append, Nat.reduceAdd, Nat.sub_self, Nat.add_zero, List.filter, zrow])
  refine RetK.of [(2, 2)] 3 (by decide) (by decide) ?_ rfl ?_ <;> simp only [go_sem, reduceCtorEq, reduceIte, Nat.reduceEqDiff, Nat.reduceLT, Nat.reduceLeDiff, Int.natCast_succ, he, renR_ok, belowR_ok]
set_option maxHeartbeats 2000000 in
theorem stringFresh_io : FnIO Tryz.prog 64 [.ptr 0 0] [(0, .box 100 [.raw (.pointer none), .nilS])] 1 (.str []) [] := by
  refine FnIO.of_vc Tryz.func64 rfl (by decide) (by simp [Tryz.f64]) covB1 [.tmp 2] rfl fun w0 T0 _ => ?_
  simp only [Tryz.f64, argEnv]
  (repeat' first | with_reducible (first | intro _ | refine rc ?_ | refine rl ?_ | refine rh ?_ | refine rt ?_ | refine rf ?_ | refine rs ?_ | refine And.intro ?_ ?_) | omega | simp (maxSteps := 1000000) only [go_sem, simprocAttr, ↓reduceIte])
  refine VcDraw.lex [] [] (by kernel_rfl) (by kernel_rfl) ?_
  (repeat' first | with_reducible (first | intro _ | refine rc ?_ | refine rl ?_ | refine rh ?_ | refine rt ?_ | refine rf ?_ | refine rs ?_ | refine And.intro ?_ ?_) | omega | simp (maxSteps := 1000000) only [go_sem, simprocAttr, ↓reduceIte])
  refine QV.intro (.raw (.pointer none)) ?_ ?_
  · (repeat' first | with_reducible (first | intro _ | refine rc ?_ | refine rl ?_ | refine rh ?_ | refine rt ?_ | refine rf ?_ | refine rs ?_ | refine And.intro ?_ ?_) | omega | simp (maxSteps := 1000000) only [go_sem, simprocAttr, ↓reduceIte])
  (repeat' first | with_reducible (first | intro _ | refine rc ?_ | refine rl ?_ | refine rh ?_ | refine rt ?_ | refine rf ?_ | refine rs ?_ | refine And.intro ?_ ?_) | omega | simp (maxSteps := 1000000) only [go_sem, simprocAttr, ↓reduceIte])
  refine QV.intro (.str []) ?_ ?_
  · (repeat' first | with_reducible (first | intro _ | refine rc ?_ | refine rl ?_ | refine rh ?_ | refine rt ?_ | refine rf ?_ | refine rs ?_ | refine And.intro ?_ ?_) | omega | simp (maxSteps := 1000000) only [go_sem, simprocAttr, ↓reduceIte])
  (repeat' first | with_reducible (first | intro _ | refine rc ?_ | refine rl ?_ | refine rh ?_ | refine rt ?_ | refine rf ?_ | refine rs ?_ | refine And.intro ?_ ?_) | omega | simp (maxSteps := 1000000) only [go_sem, simprocAttr, ↓reduceIte])
  refine RetK.auto 1 (Nat.le_refl 1) ?_ rfl ?_ <;> simp only [go_sem, reduceCtorEq, reduceIte, Nat.reduceEqDiff, Nat.reduceLT, Nat.reduceLeDiff, Int.natCast_succ]
set_option maxHeartbeats 2000000 in
theorem stringUsed_io (b : List UInt8) (hb : 0 < b.length) : FnIO Tryz.prog 64 [.ptr 0 0] [(0, .box 100 [.ptr 0 0, .own 1]), (1, .row 5 (.ints .u8 (byteInts b)))] 2 (.str b) [] := by
  have hbl := byteInts_len b
  have hz : ((byteInts b).map fun n => UInt8.ofNat n.toNat) = b := bytesOf_byteInts b
  have hne : byteInts b ≠ [] := fun e => by rw [e] at hbl; simp at hbl; omega
  generalize byteInts b = B at *
  refine FnIO.of_vc Tryz.func64 rfl (by decide) (by simp [Tryz.f64]) covB2 [.tmp 2] rfl fun w0 T0 _ => ?_
  simp only [Tryz.f64, argEnv]
  (repeat' first | with_reducible (first | intro _ | refine rc ?_ | refine rl ?_ | refine rh ?_ | refine rt ?_ | refine rf ?_ | refine rs ?_ | refine And.intro ?_ ?_) | omega | simp (maxSteps := 1000000) only [go_sem, simprocAttr, ↓reduceIte])
  refine VcDraw.lex [10] [] (by kernel_rfl) (by kernel_rfl) ?_
  (repeat' first | with_reducible (first | intro _ | refine rc ?_ | refine rl ?_ | refine rh ?_ | refine rt ?_ | refine rf ?_ | refine rs ?_ | refine And.intro ?_ ?_) | omega | simp (maxSteps := 1000000) only [go_sem, simprocAttr, ↓reduceIte, hne, hbl, hz])
  refine QV.intro (.elt 1 1 0 0) ?_ ?_
  · (repeat' first | with_reducible (first | intro _ | refine rc ?_ | refine rl ?_ | refine rh ?_ | refine rt ?_ | refine rf ?_ | refine rs ?_ | refine And.intro ?_ ?_) | omega | simp (maxSteps := 1000000) only [go_sem, simprocAttr, ↓reduceIte, hne, hbl, hz])
  (repeat' first | with_reducible (first | intro _ | refine rc ?_ | refine rl ?_ | refine rh ?_ | refine rt ?_ | refine rf ?_ | refine rs ?_ | refine And.intro ?_ ?_) | omega | simp (maxSteps := 1000000) only [go_sem, simprocAttr, ↓reduceIte, hne, hbl, hz])
  trace_state
  refine QE.intro (.str b) [(2, .row 5 (.ints .u8 [])), (0, .box 100 [.ptr 0 0, .own 1])] 3 ?_ ?_
  · (repeat' first | with_reducible (first | intro _ | refine rc ?_ | refine rl ?_ | refine rh ?_ | refine rt ?_ | refine rf ?_ | refine rs ?_ | refine And.intro ?_ ?_) | omega | simp (maxSteps := 1000000) only [go_sem, simprocAttr, ↓reduceIte, hne, hbl, hz])
  (repeat' first | with_reducible (first | intro _ | refine rc ?_ | refine rl ?_ | refine rh ?_ | refine rt ?_ | refine rf ?_ | refine rs ?_ | refine And.intro ?_ ?_) | omega | simp (maxSteps := 1000000) only [go_sem, simprocAttr, ↓reduceIte, hne, hbl, hz])
  refine RetK.auto 2 (Nat.le_refl 2) ?_ rfl ?_ <;> simp only [go_sem, reduceCtorEq, reduceIte, Nat.reduceEqDiff, Nat.reduceLT, Nat.reduceLeDiff, Int.natCast_succ]
end Go.Fv.Y

/- Correct of the program. -/
namespace Go.Fv.Y
open Go Go.Proofs
set_option linter.unusedSimpArgs false
set_option linter.unusedVariables false
set_option linter.unnecessarySimpa false
set_option maxRecDepth 8000

def kKs (kw : List Bytes) : List AV := kw.map .str
def kVs (f : Bytes → Bytes) (kw : List Bytes) : List AV := kw.map fun w => .str (f w)
theorem kIdx (kw : List Bytes) (x : Bytes) : (keyIdx (kKs kw) (.str x)).isSome = decide (x ∈ kw) := by
  unfold kKs
  rw [keyIdx_strs]
  cases h : ixOf kw x with
  | none => rw [decide_eq_false (ixOf_none.1 h)]; rfl
  | some j =>
    have : x ∈ kw := Classical.byContradiction fun h2 => by rw [ixOf_none.2 h2] at h; cases h
    rw [decide_eq_true this]; rfl
theorem kGet (f : Bytes → Bytes) {kw : List Bytes} {x : Bytes} (h : x ∈ kw) : getS (kKs kw) (kVs f kw) (.str x) = f x := by
  unfold getS getV kKs kVs
  rw [keyIdx_strs]
  induction kw with
  | nil => cases h
  | cons w l ih =>
    rw [ixOf]
    by_cases hw : w = x
    · rw [if_pos hw]; subst hw; rfl
    · rw [if_neg hw]
      have := ih (by
        rcases List.mem_cons.1 h with h | h
        · exact absurd h.symm hw
        · exact h)
      cases hx : ixOf l x with
      | none => rw [hx] at this; exact this
      | some j => rw [hx] at this; simpa using this
theorem kUpd {kw : List Bytes} {x : Bytes} (h : x ∉ kw) : updKs (kKs kw) (.str x) = kKs (kw ++ [x]) := by
  unfold kKs; rw [updKs_strs]; unfold insE; rw [if_neg h]
theorem kUpdV (f : Bytes → Bytes) {kw : List Bytes} {x : Bytes} (h : x ∉ kw) : updVs (kKs kw) (kVs f kw) (.str x) (.str (f x)) = kVs f (kw ++ [x]) := by
  unfold updVs kKs
  rw [keyIdx_strs, ixOf_none.2 h]
  simp [kVs]
theorem kIsS (f : Bytes → Bytes) (kw : List Bytes) : (kVs f kw).all isS = true := by simp [kVs, isS]
theorem ren_kKs (p : Nat → Nat) (l : List Bytes) : renL p (kKs l) = kKs l := renL_kmap p (fun _ => rfl) _
theorem ren_kVs (p : Nat → Nat) (f : Bytes → Bytes) (l : List Bytes) : renL p (kVs f l) = kVs f l := renL_kmap p (fun _ => rfl) _
theorem below_kKs (n : Nat) (l : List Bytes) : belowL n (kKs l) = true := belowL_kmap n (fun _ => rfl) _
theorem below_kVs (n : Nat) (f : Bytes → Bytes) (l : List Bytes) : belowL n (kVs f l) = true := belowL_kmap n (fun _ => rfl) _
theorem mk_kKs (l : List Bytes) (y : List AV) : mkL (kKs l) y = [] := mkL_kmap (fun _ => rfl) _ _
theorem mk_kVs (f : Bytes → Bytes) (l : List Bytes) (y : List AV) : mkL (kVs f l) y = [] := mkL_kmap (fun _ => rfl) _ _
theorem keysT_k {P : Program} {kt : TypeId} (h : P.underlying kt = some .string) (l : List Bytes) : KeysT P kt (kKs l) := KeysT_map (fun n => KeyT.str h n) _
set_option maxHeartbeats 2000000 in
theorem correctNil_ok (s : Bytes) (l : List Mx) (most : Int) : FnOk Tryz.prog 17 [.str s, .raw (.pointer none), .ro (mxs l), .int .i64 most] (.tup [.str [], .own 0, .int .i64 2]) [(0, .row 51 (fxR []))] := by
  refine FnOk.of_vc Tryz.func17 rfl (by decide) (by simp [Tryz.f17]) [.tmp 8, .tmp 9, .tmp 10] rfl fun w0 T0 _ => ?_
  simp only [Tryz.f17, argEnv]
  (repeat' first | with_reducible (first | intro _ | refine rc ?_ | refine rl ?_ | refine rh ?_ | refine rt ?_ | refine rf ?_ | refine rs ?_ | refine And.intro ?_ ?_) | omega | simp (maxSteps := 1000000) only [go_sem, simprocAttr, ↓reduceIte])
  refine Ret.auto 1 ?_ rfl ?_ <;> simp only [go_sem, reduceCtorEq, reduceIte, Nat.reduceEqDiff, Nat.reduceLT, Nat.reduceLeDiff, Int.natCast_succ, Post, fxR, List.map_nil]
structure CI where
  i : Nat
  kw : List Bytes
  u : Bool
set_option maxHeartbeats 32000000 in
theorem correct_ok (s : Bytes) (hs : s.length ≤ 400) (D : List Wd) (hg : GoodD D) (hl : D.length < 40) (l : List Mx) (most : Int) (E : Int) (hE : corrErr l most = E) (C : CS) (hC : (if E = 0 then csAll (corrW D (swL l) most) (toks s [] []) else ⟨[], [], 0⟩) = C) :
    FnOk Tryz.prog 17 [.str s, .cell [.mp (dKs D) (dVs D), .ro (.strs (wsD D))], .ro (mxs l), .int .i64 most] (.tup [.str C.b, .own 0, .int .i64 E]) [(0, .row 51 (fxR C.f))] := by
  have ke := checkMixes_ok l
  have kb := badMost_ok most
  have kt := split_ok s (by omega)
  have htk := tokOk s
  have hln := toks_len _ s [] [] (Nat.le_refl _)
  have htx := toks_text _ s [] [] (Nat.le_refl _)
  simp only [List.length_nil] at hln
  have htx2 : (textOf (toks s [] [])).length = s.length := by rw [htx]; simp [textOf]
  refine FnOk.of_vc Tryz.func17 rfl (by decide) (by simp [Tryz.f17]) [.tmp 8, .tmp 9, .tmp 10] rfl fun w0 T0 _ => ?_
  simp only [Tryz.f17, argEnv]
  unfold corrErr at hE
  rcases (Classical.em (mixErr l = 0)).symm with hm | hm
  · rw [if_neg hm] at hE
    subst hE
    rw [if_neg hm] at hC
    subst hC
    (repeat' first | with_reducible (first | intro _ | refine rc ?_ | refine rl ?_ | refine rh ?_ | refine rt ?_ | refine rf ?_ | refine rs ?_ | refine And.intro ?_ ?_) | omega | simp (maxSteps := 1000000) only [go_sem, simprocAttr, ↓reduceIte])
    refine VcCall.k (ke) ?_
    (repeat' first | with_reducible (first | intro _ | refine rc ?_ | refine rl ?_ | refine rh ?_ | refine rt ?_ | refine rf ?_ | refine rs ?_ | refine And.intro ?_ ?_) | omega | simp (maxSteps := 1000000) only [go_sem, simprocAttr, ↓reduceIte, hm])
    refine Ret.auto 1 ?_ rfl ?_ <;> simp only [go_sem, reduceCtorEq, reduceIte, Nat.reduceEqDiff, Nat.reduceLT, Nat.reduceLeDiff, Int.natCast_succ, Post, fxR, List.map_nil]
  rw [if_pos hm] at hE
  rw [hm] at ke
  rcases Classical.em (most < 0 ∨ 10000 < most) with hb | hb
  · rw [if_pos hb] at hE
    subst hE
    rw [if_neg (by decide)] at hC
    subst hC
    rw [decide_eq_true hb] at kb
    (repeat' first | with_reducible (first | intro _ | refine rc ?_ | refine rl ?_ | refine rh ?_ | refine rt ?_ | refine rf ?_ | refine rs ?_ | refine And.intro ?_ ?_) | omega | simp (maxSteps := 1000000) only [go_sem, simprocAttr, ↓reduceIte])
    refine VcCall.k (ke) ?_
    (repeat' first | with_reducible (first | intro _ | refine rc ?_ | refine rl ?_ | refine rh ?_ | refine rt ?_ | refine rf ?_ | refine rs ?_ | refine And.intro ?_ ?_) | omega | simp (maxSteps := 1000000) only [go_sem, simprocAttr, ↓reduceIte])
    refine VcCall.k (kb) ?_
    (repeat' first | with_reducible (first | intro _ | refine rc ?_ | refine rl ?_ | refine rh ?_ | refine rt ?_ | refine rf ?_ | refine rs ?_ | refine And.intro ?_ ?_) | omega | simp (maxSteps := 1000000) only [go_sem, simprocAttr, ↓reduceIte])
    refine Ret.auto 1 ?_ rfl ?_ <;> simp only [go_sem, reduceCtorEq, reduceIte, Nat.reduceEqDiff, Nat.reduceLT, Nat.reduceLeDiff, Int.natCast_succ, Post, fxR, List.map_nil]
  rw [if_neg hb] at hE
  subst hE
  rw [if_pos rfl] at hC
  rw [decide_eq_false hb] at kb
  obtain ⟨g1, g2, g3⟩ := mix_good hm
  have hml := (mixErr_zero hm).1
  have kS := swaps_ok l g3 (by omega)
  have kc := fun w hw => corr1_ok D hg hl (swL l) g1 (by omega) most w hw
  have hbd := piece_bd hg (swL l) most htk
  have hcs := cs_ok hbd
  have hpne : ∀ t, t ∈ toks s [] [] → pieceOf (corrW D (swL l) most) t ≠ [] := fun t ht => by
    unfold pieceOf
    split
    · rename_i h; exact (corrW_bd hg (swL l) most ((htk t ht).2 h)).1
    · exact (htk t ht).1
  generalize corrW D (swL l) most = f at *
  generalize wsD D = ws at *
  generalize toks s [] [] = T at *
  generalize grp [] (swL l) = gr at *
  subst hC
  (repeat' first | with_reducible (first | intro _ | refine rc ?_ | refine rl ?_ | refine rh ?_ | refine rt ?_ | refine rf ?_ | refine rs ?_ | refine And.intro ?_ ?_) | omega | simp (maxSteps := 1000000) only [go_sem, simprocAttr, ↓reduceIte])
  refine VcCall.k (ke) ?_
  (repeat' first | with_reducible (first | intro _ | refine rc ?_ | refine rl ?_ | refine rh ?_ | refine rt ?_ | refine rf ?_ | refine rs ?_ | refine And.intro ?_ ?_) | omega | simp (maxSteps := 1000000) only [go_sem, simprocAttr, ↓reduceIte])
  refine VcCall.k (kb) ?_
  (repeat' first | with_reducible (first | intro _ | refine rc ?_ | refine rl ?_ | refine rh ?_ | refine rt ?_ | refine rf ?_ | refine rs ?_ | refine And.intro ?_ ?_) | omega | simp (maxSteps := 1000000) only [go_sem, simprocAttr, ↓reduceIte])
  refine VcCall.ros (.mp (kgKs gr) (kgVs gr)) kS (by simp only [noIdR_ok, argOkL, argOk, allOk, argOkN, List.drop_zero, lk, reduceIte, reduceCtorEq, Nat.reduceEqDiff, Option.some.injEq, Item.row.injEq, Item.box.injEq, AV.ro.injEq, exists_eq_left, exists_and_left, exists_eq_left', exists_eq_right, and_assoc, and_true, true_and, List.cons.injEq, exists_eq', exists_eq]) (by simp [outOk, argOk, argOkN]) rfl ?_
  (repeat' first | with_reducible (first | intro _ | refine rc ?_ | refine rl ?_ | refine rh ?_ | refine rt ?_ | refine rf ?_ | refine rs ?_ | refine And.intro ?_ ?_) | omega | simp (maxSteps := 1000000) only [go_sem, simprocAttr, ↓reduceIte])
  refine VcCall.ro (.ro (tkR T)) (FnFr.of_ok kt rfl (by simp [noRoRows, noRoItem, noRoRow, noRoL, noRo, tkR, tkAv])) (by simp only [noIdR_ok, argOkL, argOk, allOk, argOkN, List.drop_zero, lk, reduceIte, reduceCtorEq, Nat.reduceEqDiff, Option.some.injEq, Item.row.injEq, Item.box.injEq, AV.ro.injEq, exists_eq_left, exists_and_left, exists_eq_left', exists_eq_right, and_assoc, and_true, true_and, List.cons.injEq, exists_eq', exists_eq]) (by simp [outOk, argOkL, allOk, argOk, argOkN, lk, noIdR_ok, tkR]) rfl ?_
  (repeat' first | with_reducible (first | intro _ | refine rc ?_ | refine rl ?_ | refine rh ?_ | refine rt ?_ | refine rf ?_ | refine rs ?_ | refine And.intro ?_ ?_) | omega | simp (maxSteps := 1000000) only [go_sem, simprocAttr, ↓reduceIte, tkR, List.length_map])
  have e5 : ∀ kw : List Bytes, KeysT Tryz.prog 9 (kKs kw) := fun kw => keysT_k (by kernel_rfl) _
  have hk0 : kKs [] = [] := rfl
  have hv0 : kVs f [] = [] := rfl
  have hmx := hcs T.length (Nat.le_refl _)
  refine VcLoop.intro (fun x : CI => ⟨90, [(44, .int .i64 x.i), (43, .int .i64 T.length), (42, .ro (tkR T)), (17, .int .i64 (csAll f (T.take x.i)).at_), (16, .own 5), (15, .ptr 4 0), (14, .fn 59 [.ptr 0 0, .ptr 2 0, .ptr 1 0]), (13, .own 3)], [(0, .box 28 [.cell [.mp (dKs D) (dVs D), .ro (.strs ws)]]), (1, .box 3 [.int .i64 most]), (2, .box 83 [.mp (kgKs gr) (kgVs gr)]), (3, .map (kKs x.kw) (kVs f x.kw)), (5, .row 51 (fxR (csAll f (T.take x.i)).f))] ++ (bif x.u then [(4, .box 100 [.ptr 4 0, .own 6]), (6, .row 5 (.ints .u8 (byteInts (csAll f (T.take x.i)).b)))] else [(4, .box 100 [.raw (.pointer none), .nilS])]), bif x.u then 7 else 6⟩) (fun x => x.i ≤ T.length ∧ x.kw.length ≤ x.i ∧ (x.u = true → 0 < (csAll f (T.take x.i)).b.length) ∧ (x.u = false → x.i = 0)) (fun x => T.length - x.i) ⟨0, [], false⟩ ?_ ⟨Nat.zero_le _, Nat.le_refl _, fun h => by (cases h), fun _ => rfl⟩ fun x hx => ?_
  · refine Ent.auto0 rfl ?_ ?_
    · simp only [go_sem, reduceCtorEq, reduceIte, Nat.reduceEqDiff, Nat.reduceLT, Nat.reduceLeDiff, Int.natCast_succ, tkR, cond_false, List.cons_append, List.nil_append]
      all_goals first | rfl | exact ⟨rfl, rfl⟩
    · simp only [go_sem, reduceCtorEq, reduceIte, Nat.reduceEqDiff, Nat.reduceLT, Nat.reduceLeDiff, Int.natCast_succ, tkR, fxR, cond_false, List.cons_append, List.nil_append, hk0, hv0]
      all_goals first | rfl | exact ⟨rfl, rfl⟩
  obtain ⟨i, kw, u⟩ := x
  obtain ⟨hi, hkw, hu1, hu2⟩ := hx
  dsimp only at hi hkw hu1 hu2 ⊢
  obtain ⟨c1, c2, c3⟩ := hcs i hi
  have hk4 := kIsS f kw
  have hk5 := e5 kw
  by_cases hlt : i < T.length
  · have hel := tk_elem T hlt
    have hst := csAll_take f hlt
    have hmem : T.getD i ([], false) ∈ T := by rw [getD_lt hlt]; exact List.getElem_mem hlt
    obtain ⟨t1, t2⟩ := htk _ hmem
    have hpb := hbd _ hmem
    have hpn := hpne _ hmem
    have htl : (T.getD i ([], false)).1.length ≤ s.length := by
      have h1 : textOf (T.take (i + 1)) = textOf (T.take i) ++ (T.getD i ([], false)).1 := by
        rw [List.take_succ_eq_append_getElem hlt, textOf_app, getD_lt hlt]; simp [textOf]
      have h2 := textOf_le T (i + 1)
      rw [h1, List.length_append] at h2
      omega
    unfold CS.step at hst
    generalize hX : csAll f (T.take i) = X at *
    generalize hY : csAll f (T.take (i + 1)) = Y at *
    generalize T.getD i ([], false) = z at *
    obtain ⟨z1, z2⟩ := z
    unfold pieceOf at hst hpb hpn
    dsimp only at hel hst t1 t2 hpb hpn htl
    have hYb := congrArg CS.b hst
    have hYf := congrArg CS.f hst
    have hYa : (Y.at_ : Int) = (X.at_ : Int) + (z1.length : Int) := by rw [congrArg CS.at_ hst]; simp
    dsimp only at hYb hYf
    have hX0 : i = 0 → X.b = [] ∧ X.f = [] ∧ X.at_ = 0 := fun h => by subst h; rw [← hX]; exact ⟨rfl, rfl, rfl⟩
    clear hst hX
    by_cases hu : u = false
    · subst hu
      obtain rfl := hu2 rfl
      obtain ⟨hx1, hx2, hx3⟩ := hX0 rfl
      obtain rfl : kw = [] := List.eq_nil_of_length_eq_zero (by omega)
      simp only [cond_true, cond_false, List.cons_append, List.nil_append]
      cases z2 with
      | false =>
        simp only [Bool.false_eq_true, if_false, if_true] at hYb hYf hpn hpb
        have hbuf : byteInts Y.b = byteInts z1 := by rw [hYb, hx1, List.nil_append]
        have kw2 := writeFresh_io z1 (by omega)
        have hinv : 0 + 1 ≤ T.length ∧ (([] : List Bytes)).length ≤ 0 + 1 ∧ (true = true → 0 < (csAll f (List.take (0 + 1) T)).b.length) ∧ (true = false → 0 + 1 = 0) := ⟨by omega, by simp, fun _ => by rw [hY, hYb, List.length_append]; have := List.length_pos_iff.2 hpn; omega, fun h => by (cases h)⟩
        (repeat' first | with_reducible (first | intro _ | refine rc ?_ | refine rl ?_ | refine rh ?_ | refine rt ?_ | refine rf ?_ | refine rs ?_ | refine And.intro ?_ ?_) | omega | simp (maxSteps := 1000000) only [go_sem, simprocAttr, ↓reduceIte, elemA, hel, tkR, List.length_map, cond_true, cond_false, List.cons_append, List.nil_append, kIdx, hk4, hk5])
        refine VcCall.io [4] kw2 (by decide) (by simp [renL, ren, ioN]) rfl (by simp [subOk, ioN, lk, Item.ren, Item.below, ren, renL, belowL, Fv.below, renR_ok, belowR_ok]) covB1 2 (by decide) rfl (by simp [rowsB, Item.below, Fv.below, belowL, belowR_ok]) ?_
        (repeat' first | with_reducible (first | intro _ | refine rc ?_ | refine rl ?_ | refine rh ?_ | refine rt ?_ | refine rf ?_ | refine rs ?_ | refine And.intro ?_ ?_) | omega | simp (maxSteps := 1000000) only [go_sem, simprocAttr, ↓reduceIte, S.ioS, ioRows, ioN, delL, Item.ren, ren, renL, renR_ok, ren_kKs, ren_kVs, fxR, List.length_cons, List.length_nil, List.getElem?_cons_zero, List.getElem?_cons_succ, List.getElem?_nil, List.cons_append, List.nil_append, Nat.reduceAdd, Nat.sub_self, Nat.add_zero, List.filter])
        refine ⟨⟨0 + 1, [], true⟩, Ent.auto0 rfl ?_ ?_, hinv, by dsimp only; omega⟩ <;> simp only [go_sem, reduceCtorEq, reduceIte, Nat.reduceEqDiff, Nat.reduceLT, Nat.reduceLeDiff, Int.natCast_succ, tkR, fxR, cond_true, List.cons_append, List.nil_append, hY, hYa, hbuf, hYf, ren_kKs, ren_kVs, below_kKs, below_kVs, mk_kKs, mk_kVs]
        all_goals first | rfl | omega
      | true =>
        have kc := kc z1 (t2 rfl)
        simp only [if_true] at hYb hYf hpb hpn
        have hkn : z1 ∉ ([] : List Bytes) := by simp
        have e2 : updKs (kKs []) (.str z1) = kKs [z1] := kUpd hkn
        have e3 : updVs (kKs []) (kVs f []) (.str z1) (.str (f z1)) = kVs f [z1] := kUpdV f hkn
        have hg1 := kGet f (kw := [z1]) (x := z1) (by simp)
        have hk4b := kIsS f [z1]
        have hk5b := e5 [z1]
        generalize hfz : f z1 = p at *
        have hbuf : byteInts Y.b = byteInts p := by rw [hYb, hx1, List.nil_append]
        have kw2 := writeFresh_io p (by omega)
        have hinv : 0 + 1 ≤ T.length ∧ ([z1]).length ≤ 0 + 1 ∧ (true = true → 0 < (csAll f (List.take (0 + 1) T)).b.length) ∧ (true = false → 0 + 1 = 0) := ⟨by omega, by simp, fun _ => by rw [hY, hYb, List.length_append]; have := List.length_pos_iff.2 hpn; omega, fun h => by (cases h)⟩
        by_cases hp : p = z1
        · subst hp
          rw [if_pos rfl] at hYf
          (repeat' first | with_reducible (first | intro _ | refine rc ?_ | refine rl ?_ | refine rh ?_ | refine rt ?_ | refine rf ?_ | refine rs ?_ | refine And.intro ?_ ?_) | omega | simp (maxSteps := 1000000) only [go_sem, simprocAttr, ↓reduceIte, elemA, hel, tkR, List.length_map, cond_true, cond_false, List.cons_append, List.nil_append, kIdx, hk4, hk5, hkn])
          refine VcCall.k (kc) ?_
          (repeat' first | with_reducible (first | intro _ | refine rc ?_ | refine rl ?_ | refine rh ?_ | refine rt ?_ | refine rf ?_ | refine rs ?_ | refine And.intro ?_ ?_) | omega | simp (maxSteps := 1000000) only [go_sem, simprocAttr, ↓reduceIte, elemA, hel, tkR, List.length_map, cond_true, cond_false, List.cons_append, List.nil_append, kIdx, hk4, hk5, e2, e3, hg1, hk4b, hk5b, fxR])
          refine VcCall.io [4] kw2 (by decide) (by simp [renL, ren, ioN]) rfl (by simp [subOk, ioN, lk, Item.ren, Item.below, ren, renL, belowL, Fv.below, renR_ok, belowR_ok]) covB1 2 (by decide) rfl (by simp [rowsB, Item.below, Fv.below, belowL, belowR_ok]) ?_
          (repeat' first | with_reducible (first | intro _ | refine rc ?_ | refine rl ?_ | refine rh ?_ | refine rt ?_ | refine rf ?_ | refine rs ?_ | refine And.intro ?_ ?_) | omega | simp (maxSteps := 1000000) only [go_sem, simprocAttr, ↓reduceIte, S.ioS, ioRows, ioN, delL, Item.ren, ren, renL, renR_ok, ren_kKs, ren_kVs, fxR, List.length_cons, List.length_nil, List.getElem?_cons_zero, List.getElem?_cons_succ, List.getElem?_nil, List.cons_append, List.nil_append, Nat.reduceAdd, Nat.sub_self, Nat.add_zero, List.filter])
          refine ⟨⟨0 + 1, [p], true⟩, Ent.auto0 rfl ?_ ?_, hinv, by dsimp only; omega⟩ <;> simp only [go_sem, reduceCtorEq, reduceIte, Nat.reduceEqDiff, Nat.reduceLT, Nat.reduceLeDiff, Int.natCast_succ, tkR, fxR, cond_true, List.cons_append, List.nil_append, hY, hYa, hbuf, hYf, ren_kKs, ren_kVs, below_kKs, below_kVs, mk_kKs, mk_kVs]
          all_goals first | rfl | omega
        · rw [if_neg hp] at hYf
          have hYm : Y.f.map Fx.av = X.f.map Fx.av ++ [[.int .i64 X.at_, .str z1, .str p]] := by rw [hYf, fx_snoc]
          (repeat' first | with_reducible (first | intro _ | refine rc ?_ | refine rl ?_ | refine rh ?_ | refine rt ?_ | refine rf ?_ | refine rs ?_ | refine And.intro ?_ ?_) | omega | simp (maxSteps := 1000000) only [go_sem, simprocAttr, ↓reduceIte, elemA, hel, tkR, List.length_map, cond_true, cond_false, List.cons_append, List.nil_append, kIdx, hk4, hk5, hkn])
          refine VcCall.k (kc) ?_
          (repeat' first | with_reducible (first | intro _ | refine rc ?_ | refine rl ?_ | refine rh ?_ | refine rt ?_ | refine rf ?_ | refine rs ?_ | refine And.intro ?_ ?_) | omega | simp (maxSteps := 1000000) only [go_sem, simprocAttr, ↓reduceIte, elemA, hel, tkR, List.length_map, cond_true, cond_false, List.cons_append, List.nil_append, kIdx, hk4, hk5, e2, e3, hg1, hk4b, hk5b, hp, fxR])
          refine VcCall.io [4] kw2 (by decide) (by simp [renL, ren, ioN]) rfl (by simp [subOk, ioN, lk, Item.ren, Item.below, ren, renL, belowL, Fv.below, renR_ok, belowR_ok]) covB1 2 (by decide) rfl (by simp [rowsB, Item.below, Fv.below, belowL, belowR_ok]) ?_
          (repeat' first | with_reducible (first | intro _ | refine rc ?_ | refine rl ?_ | refine rh ?_ | refine rt ?_ | refine rf ?_ | refine rs ?_ | refine And.intro ?_ ?_) | omega | simp (maxSteps := 1000000) only [go_sem, simprocAttr, ↓reduceIte, S.ioS, ioRows, ioN, delL, Item.ren, ren, renL, renR_ok, ren_kKs, ren_kVs, fxR, List.length_cons, List.length_nil, List.getElem?_cons_zero, List.getElem?_cons_succ, List.getElem?_nil, List.cons_append, List.nil_append, Nat.reduceAdd, Nat.sub_self, Nat.add_zero, List.filter, hp])
          refine ⟨⟨0 + 1, [z1], true⟩, Ent.auto0 rfl ?_ ?_, hinv, by dsimp only; omega⟩ <;> simp only [go_sem, reduceCtorEq, reduceIte, Nat.reduceEqDiff, Nat.reduceLT, Nat.reduceLeDiff, Int.natCast_succ, tkR, fxR, cond_true, List.cons_append, List.nil_append, hY, hYa, hbuf, hYm, ren_kKs, ren_kVs, below_kKs, below_kVs, mk_kKs, mk_kVs]
          all_goals first | rfl | omega
    · rw [Bool.not_eq_false] at hu
      subst hu
      have hbp := hu1 rfl
      simp only [cond_true, cond_false, List.cons_append, List.nil_append]
      cases z2 with
      | false =>
        simp only [Bool.false_eq_true, if_false, if_true] at hYb hYf hpn hpb
        have hbuf : byteInts Y.b = byteInts (X.b ++ z1) := by rw [hYb]
        have kw2 := writeUsed_io X.b z1 (by omega) (by omega)
        have hinv : i + 1 ≤ T.length ∧ (kw).length ≤ i + 1 ∧ (true = true → 0 < (csAll f (List.take (i + 1) T)).b.length) ∧ (true = false → i + 1 = 0) := ⟨by omega, by omega, fun _ => by rw [hY, hYb, List.length_append]; have := List.length_pos_iff.2 hpn; omega, fun h => by (cases h)⟩
        (repeat' first | with_reducible (first | intro _ | refine rc ?_ | refine rl ?_ | refine rh ?_ | refine rt ?_ | refine rf ?_ | refine rs ?_ | refine And.intro ?_ ?_) | omega | simp (maxSteps := 1000000) only [go_sem, simprocAttr, ↓reduceIte, elemA, hel, tkR, List.length_map, cond_true, cond_false, List.cons_append, List.nil_append, kIdx, hk4, hk5])
        refine VcCall.io [4, 6] kw2 (by decide) (by simp [renL, ren, ioN]) rfl (by simp [subOk, ioN, lk, Item.ren, Item.below, ren, renL, belowL, Fv.below, renR_ok, belowR_ok]) covB2 3 (by decide) rfl (by simp [rowsB, Item.below, Fv.below, belowL, belowR_ok]) ?_
        (repeat' first | with_reducible (first | intro _ | refine rc ?_ | refine rl ?_ | refine rh ?_ | refine rt ?_ | refine rf ?_ | refine rs ?_ | refine And.intro ?_ ?_) | omega | simp (maxSteps := 1000000) only [go_sem, simprocAttr, ↓reduceIte, S.ioS, ioRows, ioN, delL, Item.ren, ren, renL, renR_ok, ren_kKs, ren_kVs, fxR, List.length_cons, List.length_nil, List.getElem?_cons_zero, List.getElem?_cons_succ, List.getElem?_nil, List.cons_append, List.nil_append, Nat.reduceAdd, Nat.sub_self, Nat.add_zero, List.filter])
        refine ⟨⟨i + 1, kw, true⟩, Ent.auto0 rfl ?_ ?_, hinv, by dsimp only; omega⟩ <;> simp only [go_sem, reduceCtorEq, reduceIte, Nat.reduceEqDiff, Nat.reduceLT, Nat.reduceLeDiff, Int.natCast_succ, tkR, fxR, cond_true, List.cons_append, List.nil_append, hY, hYa, hbuf, hYf, ren_kKs, ren_kVs, below_kKs, below_kVs, mk_kKs, mk_kVs]
        all_goals first | rfl | omega
      | true =>
        have kc := kc z1 (t2 rfl)
        simp only [if_true] at hYb hYf hpb hpn
        by_cases hkn : z1 ∈ kw
        · have hg1 := kGet f hkn
          generalize hfz : f z1 = p at *
          have hbuf : byteInts Y.b = byteInts (X.b ++ p) := by rw [hYb]
          have kw2 := writeUsed_io X.b p (by omega) (by omega)
          have hinv : i + 1 ≤ T.length ∧ (kw).length ≤ i + 1 ∧ (true = true → 0 < (csAll f (List.take (i + 1) T)).b.length) ∧ (true = false → i + 1 = 0) := ⟨by omega, by omega, fun _ => by rw [hY, hYb, List.length_append]; have := List.length_pos_iff.2 hpn; omega, fun h => by (cases h)⟩
          by_cases hp : p = z1
          · subst hp
            rw [if_pos rfl] at hYf
            (repeat' first | with_reducible (first | intro _ | refine rc ?_ | refine rl ?_ | refine rh ?_ | refine rt ?_ | refine rf ?_ | refine rs ?_ | refine And.intro ?_ ?_) | omega | simp (maxSteps := 1000000) only [go_sem, simprocAttr, ↓reduceIte, elemA, hel, tkR, List.length_map, cond_true, cond_false, List.cons_append, List.nil_append, kIdx, hk4, hk5, hkn, hg1, fxR])
            refine VcCall.io [4, 6] kw2 (by decide) (by simp [renL, ren, ioN]) rfl (by simp [subOk, ioN, lk, Item.ren, Item.below, ren, renL, belowL, Fv.below, renR_ok, belowR_ok]) covB2 3 (by decide) rfl (by simp [rowsB, Item.below, Fv.below, belowL, belowR_ok]) ?_
            (repeat' first | with_reducible (first | intro _ | refine rc ?_ | refine rl ?_ | refine rh ?_ | refine rt ?_ | refine rf ?_ | refine rs ?_ | refine And.intro ?_ ?_) | omega | simp (maxSteps := 1000000) only [go_sem, simprocAttr, ↓reduceIte, S.ioS, ioRows, ioN, delL, Item.ren, ren, renL, renR_ok, ren_kKs, ren_kVs, fxR, List.length_cons, List.length_nil, List.getElem?_cons_zero, List.getElem?_cons_succ, List.getElem?_nil, List.cons_append, List.nil_append, Nat.reduceAdd, Nat.sub_self, Nat.add_zero, List.filter])
            refine ⟨⟨i + 1, kw, true⟩, Ent.auto0 rfl ?_ ?_, hinv, by dsimp only; omega⟩ <;> simp only [go_sem, reduceCtorEq, reduceIte, Nat.reduceEqDiff, Nat.reduceLT, Nat.reduceLeDiff, Int.natCast_succ, tkR, fxR, cond_true, List.cons_append, List.nil_append, hY, hYa, hbuf, hYf, ren_kKs, ren_kVs, below_kKs, below_kVs, mk_kKs, mk_kVs]
            all_goals first | rfl | omega
          · rw [if_neg hp] at hYf
            have hYm : Y.f.map Fx.av = X.f.map Fx.av ++ [[.int .i64 X.at_, .str z1, .str p]] := by rw [hYf, fx_snoc]
            (repeat' first | with_reducible (first | intro _ | refine rc ?_ | refine rl ?_ | refine rh ?_ | refine rt ?_ | refine rf ?_ | refine rs ?_ | refine And.intro ?_ ?_) | omega | simp (maxSteps := 1000000) only [go_sem, simprocAttr, ↓reduceIte, elemA, hel, tkR, List.length_map, cond_true, cond_false, List.cons_append, List.nil_append, kIdx, hk4, hk5, hkn, hg1, hp, fxR])
            refine VcCall.io [4, 6] kw2 (by decide) (by simp [renL, ren, ioN]) rfl (by simp [subOk, ioN, lk, Item.ren, Item.below, ren, renL, belowL, Fv.below, renR_ok, belowR_ok]) covB2 3 (by decide) rfl (by simp [rowsB, Item.below, Fv.below, belowL, belowR_ok]) ?_
            (repeat' first | with_reducible (first | intro _ | refine rc ?_ | refine rl ?_ | refine rh ?_ | refine rt ?_ | refine rf ?_ | refine rs ?_ | refine And.intro ?_ ?_) | omega | simp (maxSteps := 1000000) only [go_sem, simprocAttr, ↓reduceIte, S.ioS, ioRows, ioN, delL, Item.ren, ren, renL, renR_ok, ren_kKs, ren_kVs, fxR, List.length_cons, List.length_nil, List.getElem?_cons_zero, List.getElem?_cons_succ, List.getElem?_nil, List.cons_append, List.nil_append, Nat.reduceAdd, Nat.sub_self, Nat.add_zero, List.filter, hp])
            refine ⟨⟨i + 1, kw, true⟩, Ent.auto0 rfl ?_ ?_, hinv, by dsimp only; omega⟩ <;> simp only [go_sem, reduceCtorEq, reduceIte, Nat.reduceEqDiff, Nat.reduceLT, Nat.reduceLeDiff, Int.natCast_succ, tkR, fxR, cond_true, List.cons_append, List.nil_append, hY, hYa, hbuf, hYm, ren_kKs, ren_kVs, below_kKs, below_kVs, mk_kKs, mk_kVs]
            all_goals first | rfl | omega
        · have e2 := kUpd hkn
          have e3 := kUpdV f hkn
          have hg1 := kGet f (kw := (kw ++ [z1])) (x := z1) (by simp)
          have hk4b := kIsS f (kw ++ [z1])
          have hk5b := e5 (kw ++ [z1])
          generalize hfz : f z1 = p at *
          have hbuf : byteInts Y.b = byteInts (X.b ++ p) := by rw [hYb]
          have kw2 := writeUsed_io X.b p (by omega) (by omega)
          have hinv : i + 1 ≤ T.length ∧ ((kw ++ [z1])).length ≤ i + 1 ∧ (true = true → 0 < (csAll f (List.take (i + 1) T)).b.length) ∧ (true = false → i + 1 = 0) := ⟨by omega, by rw [List.length_append]; show _ + 1 ≤ _; omega, fun _ => by rw [hY, hYb, List.length_append]; have := List.length_pos_iff.2 hpn; omega, fun h => by (cases h)⟩
          by_cases hp : p = z1
          · subst hp
            rw [if_pos rfl] at hYf
            (repeat' first | with_reducible (first | intro _ | refine rc ?_ | refine rl ?_ | refine rh ?_ | refine rt ?_ | refine rf ?_ | refine rs ?_ | refine And.intro ?_ ?_) | omega | simp (maxSteps := 1000000) only [go_sem, simprocAttr, ↓reduceIte, elemA, hel, tkR, List.length_map, cond_true, cond_false, List.cons_append, List.nil_append, kIdx, hk4, hk5, hkn])
            refine VcCall.k (kc) ?_
            (repeat' first | with_reducible (first | intro _ | refine rc ?_ | refine rl ?_ | refine rh ?_ | refine rt ?_ | refine rf ?_ | refine rs ?_ | refine And.intro ?_ ?_) | omega | simp (maxSteps := 1000000) only [go_sem, simprocAttr, ↓reduceIte, elemA, hel, tkR, List.length_map, cond_true, cond_false, List.cons_append, List.nil_append, kIdx, hk4, hk5, e2, e3, hg1, hk4b, hk5b, fxR])
            refine VcCall.io [4, 6] kw2 (by decide) (by simp [renL, ren, ioN]) rfl (by simp [subOk, ioN, lk, Item.ren, Item.below, ren, renL, belowL, Fv.below, renR_ok, belowR_ok]) covB2 3 (by decide) rfl (by simp [rowsB, Item.below, Fv.below, belowL, belowR_ok]) ?_
            (repeat' first | with_reducible (first | intro _ | refine rc ?_ | refine rl ?_ | refine rh ?_ | refine rt ?_ | refine rf ?_ | refine rs ?_ | refine And.intro ?_ ?_) | omega | simp (maxSteps := 1000000) only [go_sem, simprocAttr, ↓reduceIte, S.ioS, ioRows, ioN, delL, Item.ren, ren, renL, renR_ok, ren_kKs, ren_kVs, fxR, List.length_cons, List.length_nil, List.getElem?_cons_zero, List.getElem?_cons_succ, List.getElem?_nil, List.cons_append, List.nil_append, Nat.reduceAdd, Nat.sub_self, Nat.add_zero, List.filter])
            refine ⟨⟨i + 1, (kw ++ [p]), true⟩, Ent.auto0 rfl ?_ ?_, hinv, by dsimp only; omega⟩ <;> simp only [go_sem, reduceCtorEq, reduceIte, Nat.reduceEqDiff, Nat.reduceLT, Nat.reduceLeDiff, Int.natCast_succ, tkR, fxR, cond_true, List.cons_append, List.nil_append, hY, hYa, hbuf, hYf, ren_kKs, ren_kVs, below_kKs, below_kVs, mk_kKs, mk_kVs]
            all_goals first | rfl | omega
          · rw [if_neg hp] at hYf
            have hYm : Y.f.map Fx.av = X.f.map Fx.av ++ [[.int .i64 X.at_, .str z1, .str p]] := by rw [hYf, fx_snoc]
            (repeat' first | with_reducible (first | intro _ | refine rc ?_ | refine rl ?_ | refine rh ?_ | refine rt ?_ | refine rf ?_ | refine rs ?_ | refine And.intro ?_ ?_) | omega | simp (maxSteps := 1000000) only [go_sem, simprocAttr, ↓reduceIte, elemA, hel, tkR, List.length_map, cond_true, cond_false, List.cons_append, List.nil_append, kIdx, hk4, hk5, hkn])
            refine VcCall.k (kc) ?_
            (repeat' first | with_reducible (first | intro _ | refine rc ?_ | refine rl ?_ | refine rh ?_ | refine rt ?_ | refine rf ?_ | refine rs ?_ | refine And.intro ?_ ?_) | omega | simp (maxSteps := 1000000) only [go_sem, simprocAttr, ↓reduceIte, elemA, hel, tkR, List.length_map, cond_true, cond_false, List.cons_append, List.nil_append, kIdx, hk4, hk5, e2, e3, hg1, hk4b, hk5b, hp, fxR])
            refine VcCall.io [4, 6] kw2 (by decide) (by simp [renL, ren, ioN]) rfl (by simp [subOk, ioN, lk, Item.ren, Item.below, ren, renL, belowL, Fv.below, renR_ok, belowR_ok]) covB2 3 (by decide) rfl (by simp [rowsB, Item.below, Fv.below, belowL, belowR_ok]) ?_
            (repeat' first | with_reducible (first | intro _ | refine rc ?_ | refine rl ?_ | refine rh ?_ | refine rt ?_ | refine rf ?_ | refine rs ?_ | refine And.intro ?_ ?_) | omega | simp (maxSteps := 1000000) only [go_sem, simprocAttr, ↓reduceIte, S.ioS, ioRows, ioN, delL, Item.ren, ren, renL, renR_ok, ren_kKs, ren_kVs, fxR, List.length_cons, List.length_nil, List.getElem?_cons_zero, List.getElem?_cons_succ, List.getElem?_nil, List.cons_append, List.nil_append, Nat.reduceAdd, Nat.sub_self, Nat.add_zero, List.filter, hp])
            refine ⟨⟨i + 1, (kw ++ [z1]), true⟩, Ent.auto0 rfl ?_ ?_, hinv, by dsimp only; omega⟩ <;> simp only [go_sem, reduceCtorEq, reduceIte, Nat.reduceEqDiff, Nat.reduceLT, Nat.reduceLeDiff, Int.natCast_succ, tkR, fxR, cond_true, List.cons_append, List.nil_append, hY, hYa, hbuf, hYm, ren_kKs, ren_kVs, below_kKs, below_kVs, mk_kKs, mk_kVs]
            all_goals first | rfl | omega
  · have e : i = T.length := by omega
    subst e
    rw [List.take_length] at *
    generalize hXe : csAll f T = X at *
    cases u with
    | false =>
      have hT0 : T = [] := List.eq_nil_of_length_eq_zero (hu2 rfl)
      subst hT0
      have hXe : (⟨[], [], 0⟩ : CS) = X := hXe
      subst hXe
      have kst := stringFresh_io
      simp only [cond_true, cond_false, List.cons_append, List.nil_append]
      (repeat' first | with_reducible (first | intro _ | refine rc ?_ | refine rl ?_ | refine rh ?_ | refine rt ?_ | refine rf ?_ | refine rs ?_ | refine And.intro ?_ ?_) | omega | simp (maxSteps := 1000000) only [go_sem, simprocAttr, ↓reduceIte, tkR, List.length_map, List.length_nil, List.map_nil])
      refine VcCall.io [4] kst (by decide) (by simp [renL, ren, ioN]) rfl (by simp [subOk, ioN, lk, Item.ren, Item.below, ren, renL, belowL, Fv.below, renR_ok, belowR_ok]) covB1 1 (by decide) rfl (by simp [rowsB]) ?_
      (repeat' first | with_reducible (first | intro _ | refine rc ?_ | refine rl ?_ | refine rh ?_ | refine rt ?_ | refine rf ?_ | refine rs ?_ | refine And.intro ?_ ?_) | omega | simp (maxSteps := 1000000) only [go_sem, simprocAttr, ↓reduceIte, S.ioS, ioRows, ioN, delL, Item.ren, ren, renL, renR_ok, ren_kKs, ren_kVs, List.length_cons, List.length_nil, List.getElem?_cons_zero, List.getElem?_cons_succ, List.getElem?_nil, List.cons_append, List.nil_append, Nat.reduceAdd, Nat.sub_self, Nat.add_zero, List.filter])
      refine Ret.auto 1 ?_ rfl ?_ <;> simp only [go_sem, reduceCtorEq, reduceIte, Nat.reduceEqDiff, Nat.reduceLT, Nat.reduceLeDiff, Int.natCast_succ, Post, fxR, List.map_nil, ren_kKs, ren_kVs, below_kKs, below_kVs, mk_kKs, mk_kVs]
    | true =>
      have kst := stringUsed_io X.b (hu1 rfl)
      simp only [cond_true, cond_false, List.cons_append, List.nil_append]
      (repeat' first | with_reducible (first | intro _ | refine rc ?_ | refine rl ?_ | refine rh ?_ | refine rt ?_ | refine rf ?_ | refine rs ?_ | refine And.intro ?_ ?_) | omega | simp (maxSteps := 1000000) only [go_sem, simprocAttr, ↓reduceIte, tkR, List.length_map])
      refine VcCall.io [4, 6] kst (by decide) (by simp [renL, ren, ioN]) rfl (by simp [subOk, ioN, lk, Item.ren, Item.below, ren, renL, belowL, Fv.below, renR_ok, belowR_ok]) covB2 2 (by decide) rfl (by simp [rowsB]) ?_
      (repeat' first | with_reducible (first | intro _ | refine rc ?_ | refine rl ?_ | refine rh ?_ | refine rt ?_ | refine rf ?_ | refine rs ?_ | refine And.intro ?_ ?_) | omega | simp (maxSteps := 1000000) only [go_sem, simprocAttr, ↓reduceIte, S.ioS, ioRows, ioN, delL, Item.ren, ren, renL, renR_ok, ren_kKs, ren_kVs, List.length_cons, List.length_nil, List.getElem?_cons_zero, List.getElem?_cons_succ, List.getElem?_nil, List.cons_append, List.nil_append, Nat.reduceAdd, Nat.sub_self, Nat.add_zero, List.filter])
      refine Ret.auto 1 ?_ rfl ?_ <;> simp only [go_sem, reduceCtorEq, reduceIte, Nat.reduceEqDiff, Nat.reduceLT, Nat.reduceLeDiff, Int.natCast_succ, Post, fxR, ren_kKs, ren_kVs, below_kKs, below_kVs, mk_kKs, mk_kVs]
end Go.Fv.Y

/- Correct of the reference. -/
namespace Go.Fv.Y
open Go Go.Proofs
set_option linter.unusedSimpArgs false
set_option linter.unusedVariables false
set_option linter.unnecessarySimpa false
set_option maxRecDepth 8000

set_option maxHeartbeats 16000000 in
theorem refCorrect_ok (s : Bytes) (hs : s.length ≤ 400) (D : List Wd) (hg : GoodD D) (hl : D.length < 40) (l : List Mx) (most : Int) (E : Int) (hE : corrErr l most = E) (C : CS) (hC : (if E = 0 then csAll (corrW D (swL l) most) (toks s [] []) else ⟨[], [], 0⟩) = C) :
    FnOk Tryz.prog 18 [.str s, .cell [.ro (wdR (sortW D))], .ro (mxs l), .int .i64 most] (.tup [.str C.b, .own 0, .int .i64 E]) [(0, .row 51 (fxR C.f))] := by
  have ke := mixesError_ok l
  have kt := refTokens_ok s (by omega)
  have htk := tokOk s
  have hln := toks_len _ s [] [] (Nat.le_refl _)
  have htx := toks_text _ s [] [] (Nat.le_refl _)
  simp only [List.length_nil] at hln
  have htx2 : (textOf (toks s [] [])).length = s.length := by rw [htx]; simp [textOf]
  refine FnOk.of_vc Tryz.func18 rfl (by decide) (by simp [Tryz.f18]) [.tmp 8, .tmp 9, .tmp 10] rfl fun w0 T0 _ => ?_
  simp only [Tryz.f18, argEnv]
  unfold corrErr at hE
  rcases (Classical.em (mixErr l = 0)).symm with hm | hm
  · rw [if_neg hm] at hE
    subst hE
    rw [if_neg hm] at hC
    subst hC
    (repeat' first | with_reducible (first | intro _ | refine rc ?_ | refine rl ?_ | refine rh ?_ | refine rt ?_ | refine rf ?_ | refine rs ?_ | refine And.intro ?_ ?_) | omega | simp (maxSteps := 1000000) only [go_sem, simprocAttr, ↓reduceIte])
    refine VcCall.k (ke) ?_
    (repeat' first | with_reducible (first | intro _ | refine rc ?_ | refine rl ?_ | refine rh ?_ | refine rt ?_ | refine rf ?_ | refine rs ?_ | refine And.intro ?_ ?_) | omega | simp (maxSteps := 1000000) only [go_sem, simprocAttr, ↓reduceIte, hm])
    refine VcCall.k (ke) ?_
    (repeat' first | with_reducible (first | intro _ | refine rc ?_ | refine rl ?_ | refine rh ?_ | refine rt ?_ | refine rf ?_ | refine rs ?_ | refine And.intro ?_ ?_) | omega | simp (maxSteps := 1000000) only [go_sem, simprocAttr, ↓reduceIte])
    refine Ret.auto 1 ?_ rfl ?_ <;> simp only [go_sem, reduceCtorEq, reduceIte, Nat.reduceEqDiff, Nat.reduceLT, Nat.reduceLeDiff, Int.natCast_succ, Post, fxR, List.map_nil]
  rw [if_pos hm] at hE
  rw [hm] at ke
  rcases Classical.em (most < 0 ∨ 10000 < most) with hb | hb
  · rw [if_pos hb] at hE
    subst hE
    rw [if_neg (by decide)] at hC
    subst hC
    (repeat' first | with_reducible (first | intro _ | refine rc ?_ | refine rl ?_ | refine rh ?_ | refine rt ?_ | refine rf ?_ | refine rs ?_ | refine And.intro ?_ ?_) | omega | simp (maxSteps := 1000000) only [go_sem, simprocAttr, ↓reduceIte])
    refine VcCall.k (ke) ?_
    (repeat' first | with_reducible (first | intro _ | refine rc ?_ | refine rl ?_ | refine rh ?_ | refine rt ?_ | refine rf ?_ | refine rs ?_ | refine And.intro ?_ ?_) | omega | simp (maxSteps := 1000000) only [go_sem, simprocAttr, ↓reduceIte, hb])
    refine Ret.auto 1 ?_ rfl ?_ <;> simp only [go_sem, reduceCtorEq, reduceIte, Nat.reduceEqDiff, Nat.reduceLT, Nat.reduceLeDiff, Int.natCast_succ, Post, fxR, List.map_nil]
  rw [if_neg hb] at hE
  subst hE
  rw [if_pos rfl] at hC
  have kc := fun w hw => refCorr_ok D hg hl l hm most hb w hw
  have hbd := piece_bd hg (swL l) most htk
  have hcs := cs_ok hbd
  generalize corrW D (swL l) most = f at *
  generalize sortW D = RW at *
  generalize toks s [] [] = T at *
  subst hC
  (repeat' first | with_reducible (first | intro _ | refine rc ?_ | refine rl ?_ | refine rh ?_ | refine rt ?_ | refine rf ?_ | refine rs ?_ | refine And.intro ?_ ?_) | omega | simp (maxSteps := 1000000) only [go_sem, simprocAttr, ↓reduceIte])
  refine VcCall.k (ke) ?_
  (repeat' first | with_reducible (first | intro _ | refine rc ?_ | refine rl ?_ | refine rh ?_ | refine rt ?_ | refine rf ?_ | refine rs ?_ | refine And.intro ?_ ?_) | omega | simp (maxSteps := 1000000) only [go_sem, simprocAttr, ↓reduceIte, hb])
  refine VcCall.ro (.ro (tkR T)) (FnFr.of_ok kt rfl (by simp [noRoRows, noRoItem, noRoRow, noRoL, noRo, tkR, tkAv])) (by simp only [noIdR_ok, argOkL, argOk, allOk, argOkN, List.drop_zero, lk, reduceIte, reduceCtorEq, Nat.reduceEqDiff, Option.some.injEq, Item.row.injEq, Item.box.injEq, AV.ro.injEq, exists_eq_left, exists_and_left, exists_eq_left', exists_eq_right, and_assoc, and_true, true_and, List.cons.injEq, exists_eq', exists_eq]) (by simp [outOk, argOkL, allOk, argOk, argOkN, lk, noIdR_ok, tkR]) rfl ?_
  (repeat' first | with_reducible (first | intro _ | refine rc ?_ | refine rl ?_ | refine rh ?_ | refine rt ?_ | refine rf ?_ | refine rs ?_ | refine And.intro ?_ ?_) | omega | simp (maxSteps := 1000000) only [go_sem, simprocAttr, ↓reduceIte, tkR, List.length_map])
  refine VcLoop.intro (fun i : Nat => ⟨73, [(37, .int .i64 i), (36, .int .i64 T.length), (35, .ro (tkR T)), (1, .cell [.ro (wdR RW)]), (2, .ro (mxs l)), (3, .int .i64 most), (11, .str (csAll f (T.take i)).b), (12, .int .i64 (csAll f (T.take i)).at_), (13, .own 0)], [(0, .row 51 (fxR (csAll f (T.take i)).f))], 1⟩) (fun i => i ≤ T.length) (fun i => T.length - i) 0 ?_ (Nat.zero_le _) fun i hi => ?_
  · refine Ent.auto0 rfl ?_ ?_
    · simp only [go_sem, reduceCtorEq, reduceIte, Nat.reduceEqDiff, Nat.reduceLT, Nat.reduceLeDiff, Int.natCast_succ, tkR]
      all_goals exact ⟨rfl, rfl⟩
    · simp only [go_sem, reduceCtorEq, reduceIte, Nat.reduceEqDiff, Nat.reduceLT, Nat.reduceLeDiff, Int.natCast_succ, tkR, fxR]
      all_goals rfl
  obtain ⟨c1, c2, c3⟩ := hcs i hi
  by_cases hlt : i < T.length
  · have hel := tk_elem T hlt
    have hst := csAll_take f hlt
    have hmem : T.getD i ([], false) ∈ T := by rw [getD_lt hlt]; exact List.getElem_mem hlt
    obtain ⟨t1, t2⟩ := htk _ hmem
    have hpb := hbd _ hmem
    have htl : (T.getD i ([], false)).1.length ≤ s.length := by
      have h1 : textOf (T.take (i + 1)) = textOf (T.take i) ++ (T.getD i ([], false)).1 := by
        rw [List.take_succ_eq_append_getElem hlt, textOf_app, getD_lt hlt]; simp [textOf]
      have h2 := textOf_le T (i + 1)
      rw [h1, List.length_append] at h2
      omega
    unfold CS.step at hst
    generalize hX : csAll f (T.take i) = X at *
    generalize hY : csAll f (T.take (i + 1)) = Y at *
    generalize T.getD i ([], false) = z at *
    obtain ⟨z1, z2⟩ := z
    unfold pieceOf at hst hpb
    dsimp only at hel hst t1 t2 hpb htl
    have hYb := congrArg CS.b hst
    have hYf := congrArg CS.f hst
    have hYa : (Y.at_ : Int) = (X.at_ : Int) + (z1.length : Int) := by rw [congrArg CS.at_ hst]; simp
    dsimp only at hYb hYf
    cases z2 with
    | false =>
      simp only [Bool.false_eq_true, if_false, if_true] at hYb hYf
      (repeat' first | with_reducible (first | intro _ | refine rc ?_ | refine rl ?_ | refine rh ?_ | refine rt ?_ | refine rf ?_ | refine rs ?_ | refine And.intro ?_ ?_) | omega | simp (maxSteps := 1000000) only [go_sem, simprocAttr, ↓reduceIte, elemA, hel, tkR, List.length_map])
      refine ⟨i + 1, Ent.auto0 rfl ?_ ?_, by omega, by omega⟩ <;> simp only [go_sem, reduceCtorEq, reduceIte, Nat.reduceEqDiff, Nat.reduceLT, Nat.reduceLeDiff, Int.natCast_succ, tkR, fxR, hY, hYb, hYf, hYa]
    | true =>
      have kc := kc z1 (t2 rfl)
      simp only [if_true] at hYb hYf hpb
      generalize f z1 = p at *
      by_cases hp : p = z1
      · rw [if_pos hp] at hYf
        subst hp
        (repeat' first | with_reducible (first | intro _ | refine rc ?_ | refine rl ?_ | refine rh ?_ | refine rt ?_ | refine rf ?_ | refine rs ?_ | refine And.intro ?_ ?_) | omega | simp (maxSteps := 1000000) only [go_sem, simprocAttr, ↓reduceIte, elemA, hel, tkR, List.length_map])
        refine VcCall.k (kc) ?_
        (repeat' first | with_reducible (first | intro _ | refine rc ?_ | refine rl ?_ | refine rh ?_ | refine rt ?_ | refine rf ?_ | refine rs ?_ | refine And.intro ?_ ?_) | omega | simp (maxSteps := 1000000) only [go_sem, simprocAttr, ↓reduceIte])
        refine ⟨i + 1, Ent.auto0 rfl ?_ ?_, by omega, by omega⟩ <;> simp only [go_sem, reduceCtorEq, reduceIte, Nat.reduceEqDiff, Nat.reduceLT, Nat.reduceLeDiff, Int.natCast_succ, tkR, fxR, hY, hYb, hYf, hYa]
      · rw [if_neg hp] at hYf
        have hYm : Y.f.map Fx.av = X.f.map Fx.av ++ [[.int .i64 X.at_, .str z1, .str p]] := by rw [hYf, fx_snoc]
        (repeat' first | with_reducible (first | intro _ | refine rc ?_ | refine rl ?_ | refine rh ?_ | refine rt ?_ | refine rf ?_ | refine rs ?_ | refine And.intro ?_ ?_) | omega | simp (maxSteps := 1000000) only [go_sem, simprocAttr, ↓reduceIte, elemA, hel, tkR, List.length_map])
        refine VcCall.k (kc) ?_
        (repeat' first | with_reducible (first | intro _ | refine rc ?_ | refine rl ?_ | refine rh ?_ | refine rt ?_ | refine rf ?_ | refine rs ?_ | refine And.intro ?_ ?_) | omega | simp (maxSteps := 1000000) only [go_sem, simprocAttr, ↓reduceIte, hp, fxR, List.length_map])
        refine ⟨i + 1, Ent.auto0 rfl ?_ ?_, by omega, by omega⟩ <;> simp only [go_sem, reduceCtorEq, reduceIte, Nat.reduceEqDiff, Nat.reduceLT, Nat.reduceLeDiff, Int.natCast_succ, tkR, fxR, hY, hYb, hYm, hYa]
  · have e : i = T.length := by omega
    subst e
    rw [List.take_length]
    (repeat' first | with_reducible (first | intro _ | refine rc ?_ | refine rl ?_ | refine rh ?_ | refine rt ?_ | refine rf ?_ | refine rs ?_ | refine And.intro ?_ ?_) | omega | simp (maxSteps := 1000000) only [go_sem, simprocAttr, ↓reduceIte, tkR, List.length_map])
    refine Ret.auto 1 ?_ rfl ?_ <;> simp only [go_sem, reduceCtorEq, reduceIte, Nat.reduceEqDiff, Nat.reduceLT, Nat.reduceLeDiff, Int.natCast_succ, Post, fxR]
end Go.Fv.Y

/- slices.BinarySearch of words. -/
namespace Go.Fv.Y
open Go Go.Proofs
set_option linter.unusedSimpArgs false
set_option linter.unusedVariables false
set_option linter.unnecessarySimpa false
set_option maxRecDepth 8000

end Go.Fv.Y

/- Begin, and the reference's. -/
namespace Go.Fv.Y
open Go Go.Proofs
set_option linter.unusedSimpArgs false
set_option linter.unusedVariables false
set_option linter.unnecessarySimpa false
set_option maxRecDepth 8000

end Go.Fv.Y

/- The reference's DictError and NewDict. -/
namespace Go.Fv.Y
open Go Go.Proofs
set_option linter.unusedSimpArgs false
set_option linter.unusedVariables false
set_option linter.unnecessarySimpa false
set_option maxRecDepth 8000

def sKs (l : List Wd) : List AV := (l.map Wd.t).map .str
def sVs (l : List Wd) : List AV := (l.map Wd.t).map fun _ => .bool true
theorem updKs_s {l : List Wd} {w : Wd} (h : w.t ∉ l.map Wd.t) : updKs (sKs l) (.str w.t) = sKs (l ++ [w]) := updKs_d h
theorem updVs_s {l : List Wd} {w : Wd} (h : w.t ∉ l.map Wd.t) : updVs (sKs l) (sVs l) (.str w.t) (.bool true) = sVs (l ++ [w]) := by
  unfold updVs sKs sVs
  rw [keyIdx_strs, ixOf_none.2 h]
  simp
theorem getB_s (l : List Wd) (x : Bytes) : getB (sKs l) (sVs l) (.str x) = decide (x ∈ l.map Wd.t) := by
  unfold getB getV sKs sVs
  rw [keyIdx_strs]
  cases h : ixOf (l.map Wd.t) x with
  | none => simp [ixOf_none.1 h]
  | some j =>
    have hj := ixOf_some h
    have hm := List.mem_of_getElem? hj
    obtain ⟨a1, a2⟩ := List.getElem?_eq_some_iff.1 hj
    rw [decide_eq_true hm]
    simp only [Option.bind_some, List.getElem?_map, List.getElem?_map]
    rw [List.getElem?_eq_getElem (by simpa using a1)]
    rfl
theorem isB_s (l : List Wd) : (sVs l).all isB = true := by simp [sVs, isB]
theorem ren_sKs (p : Nat → Nat) (l : List Wd) : renL p (sKs l) = sKs l := renL_kmap p (fun _ => rfl) _
theorem ren_sVs (p : Nat → Nat) (l : List Wd) : renL p (sVs l) = sVs l := renL_kmap p (fun _ => rfl) _
theorem below_sKs (n : Nat) (l : List Wd) : belowL n (sKs l) = true := belowL_kmap n (fun _ => rfl) _
theorem below_sVs (n : Nat) (l : List Wd) : belowL n (sVs l) = true := belowL_kmap n (fun _ => rfl) _
theorem mk_sKs (l : List Wd) (y : List AV) : mkL (sKs l) y = [] := mkL_kmap (fun _ => rfl) _ _
theorem mk_sVs (l : List Wd) (y : List AV) : mkL (sVs l) y = [] := mkL_kmap (fun _ => rfl) _ _
theorem keysT_s {P : Program} {kt : TypeId} (h : P.underlying kt = some .string) (l : List Wd) : KeysT P kt (sKs l) := KeysT_map (fun n => KeyT.str h n) _
theorem wdEs_take (l : List Wd) {i : Nat} (h : i < l.length) : wdEs ((l.take i).map Wd.t) (l.drop i) = if wdE ((l.take i).map Wd.t) (l.getD i Wd.zero) = 0 then wdEs ((l.take (i + 1)).map Wd.t) (l.drop (i + 1)) else wdE ((l.take i).map Wd.t) (l.getD i Wd.zero) := by
  rw [wdEs_drop l h]
  rw [show (l.take (i + 1)).map Wd.t = (l.take i).map Wd.t ++ [(l.getD i Wd.zero).t] by rw [List.take_succ_eq_append_getElem h, List.map_append, getD_lt h]; rfl]
set_option maxHeartbeats 4000000 in
theorem refDictError_ok (l : List Wd) : FnOk Tryz.prog 36 [.ro (wdR l)] (.int .i64 (dictErr l)) [] := by
  unfold dictErr
  refine FnOk.of_vc Tryz.func36 rfl (by decide) (by simp [Tryz.f36]) [.tmp 2] rfl fun w0 T0 _ => ?_
  simp only [Tryz.f36, argEnv]
  by_cases h0 : 5000 < l.length
  · (repeat' first | with_reducible (first | intro _ | refine rc ?_ | refine rl ?_ | refine rh ?_ | refine rt ?_ | refine rf ?_ | refine rs ?_ | refine And.intro ?_ ?_) | omega | simp (maxSteps := 1000000) only [go_sem, simprocAttr, ↓reduceIte, List.length_map])
    refine Ret.auto 0 ?_ rfl ?_ <;> simp only [go_sem, reduceCtorEq, reduceIte, Nat.reduceEqDiff, Nat.reduceLT, Nat.reduceLeDiff, Int.natCast_succ, Post, h0]
  rw [if_neg h0]
  (repeat' first | with_reducible (first | intro _ | refine rc ?_ | refine rl ?_ | refine rh ?_ | refine rt ?_ | refine rf ?_ | refine rs ?_ | refine And.intro ?_ ?_) | omega | simp (maxSteps := 1000000) only [go_sem, simprocAttr, ↓reduceIte, List.length_map])
  refine VcLoop.intro (fun i : Nat => ⟨39, [(12, .int .i64 i), (11, .int .i64 l.length), (10, .ro (wdR l)), (3, .own 0)], [(0, .map (sKs (l.take i)) (sVs (l.take i)))], 1⟩) (fun i => i ≤ l.length ∧ wdEs ((l.take i).map Wd.t) (l.drop i) = wdEs [] l) (fun i => l.length - i) 0 ?_ ⟨Nat.zero_le _, rfl⟩ fun i hi => ?_
  · refine Ent.auto0 rfl ?_ ?_ <;> simp only [go_sem, reduceCtorEq, reduceIte, Nat.reduceEqDiff, Nat.reduceLT, Nat.reduceLeDiff, Int.natCast_succ, List.take_zero, ren_sKs, ren_sVs, below_sKs, below_sVs, mk_sKs, mk_sVs]
    all_goals rfl
  obtain ⟨hi, hc⟩ := hi
  by_cases hlt : i < l.length
  · have he := wd_elem l hlt
    rw [wdEs_take l hlt] at hc
    have ht : l.take (i + 1) = l.take i ++ [l.getD i Wd.zero] := by rw [List.take_succ_eq_append_getElem hlt, getD_lt hlt]
    generalize l.getD i Wd.zero = y at *
    have e1 := getB_s (l.take i) y.t
    have e2 := fun h => @updKs_s (l.take i) y h
    have e3 := fun h => @updVs_s (l.take i) y h
    have e4 := isB_s (l.take i)
    have e5 : KeysT Tryz.prog 9 (sKs (l.take i)) := keysT_s (by kernel_rfl) _
    rw [← ht] at e2 e3
    generalize hL1 : l.take (i + 1) = L1 at *
    generalize l.take i = L0 at *
    have kw := refIsWordA_ok y.t
    unfold wdE at hc
    obtain ⟨yt, yc⟩ := y
    dsimp only at he hc e1 e2 e3 kw
    cases hw : isWd yt with
    | false =>
      rw [hw] at kw
      rw [if_neg (by rw [if_pos hw]; decide), if_pos hw] at hc
      (repeat' first | with_reducible (first | intro _ | refine rc ?_ | refine rl ?_ | refine rh ?_ | refine rt ?_ | refine rf ?_ | refine rs ?_ | refine And.intro ?_ ?_) | omega | simp (maxSteps := 1000000) only [go_sem, simprocAttr, ↓reduceIte, elemA, he, List.length_map])
      refine VcCall.k (kw) ?_
      (repeat' first | with_reducible (first | intro _ | refine rc ?_ | refine rl ?_ | refine rh ?_ | refine rt ?_ | refine rf ?_ | refine rs ?_ | refine And.intro ?_ ?_) | omega | simp (maxSteps := 1000000) only [go_sem, simprocAttr, ↓reduceIte])
      refine Ret.auto 0 ?_ rfl ?_ <;> simp only [go_sem, reduceCtorEq, reduceIte, Nat.reduceEqDiff, Nat.reduceLT, Nat.reduceLeDiff, Int.natCast_succ, Post, ← hc]
    | true =>
      rw [hw] at kw
      rw [if_neg (show ¬ isWd yt = false by rw [hw]; decide)] at hc
      by_cases hr : yc < 1 ∨ 1000000000 < yc
      · rw [if_neg (by rw [if_pos hr]; decide), if_pos hr] at hc
        (repeat' first | with_reducible (first | intro _ | refine rc ?_ | refine rl ?_ | refine rh ?_ | refine rt ?_ | refine rf ?_ | refine rs ?_ | refine And.intro ?_ ?_) | omega | simp (maxSteps := 1000000) only [go_sem, simprocAttr, ↓reduceIte, elemA, he, List.length_map])
        refine VcCall.k (kw) ?_
        (repeat' first | with_reducible (first | intro _ | refine rc ?_ | refine rl ?_ | refine rh ?_ | refine rt ?_ | refine rf ?_ | refine rs ?_ | refine And.intro ?_ ?_) | omega | simp (maxSteps := 1000000) only [go_sem, simprocAttr, ↓reduceIte, hr])
        refine Ret.auto 0 ?_ rfl ?_ <;> simp only [go_sem, reduceCtorEq, reduceIte, Nat.reduceEqDiff, Nat.reduceLT, Nat.reduceLeDiff, Int.natCast_succ, Post, ← hc]
      · rw [if_neg hr] at hc
        by_cases hm : yt ∈ L0.map Wd.t
        · rw [decide_eq_true hm] at e1
          rw [if_neg (by rw [if_pos hm]; decide), if_pos hm] at hc
          (repeat' first | with_reducible (first | intro _ | refine rc ?_ | refine rl ?_ | refine rh ?_ | refine rt ?_ | refine rf ?_ | refine rs ?_ | refine And.intro ?_ ?_) | omega | simp (maxSteps := 1000000) only [go_sem, simprocAttr, ↓reduceIte, elemA, he, List.length_map])
          refine VcCall.k (kw) ?_
          (repeat' first | with_reducible (first | intro _ | refine rc ?_ | refine rl ?_ | refine rh ?_ | refine rt ?_ | refine rf ?_ | refine rs ?_ | refine And.intro ?_ ?_) | omega | simp (maxSteps := 1000000) only [go_sem, simprocAttr, ↓reduceIte, hr, e1, e4, e5])
          refine Ret.auto 0 ?_ rfl ?_ <;> simp only [go_sem, reduceCtorEq, reduceIte, Nat.reduceEqDiff, Nat.reduceLT, Nat.reduceLeDiff, Int.natCast_succ, Post, ← hc]
        · rw [decide_eq_false hm] at e1
          rw [if_pos (by rw [if_neg hm])] at hc
          have e2 := e2 hm
          have e3 := e3 hm
          (repeat' first | with_reducible (first | intro _ | refine rc ?_ | refine rl ?_ | refine rh ?_ | refine rt ?_ | refine rf ?_ | refine rs ?_ | refine And.intro ?_ ?_) | omega | simp (maxSteps := 1000000) only [go_sem, simprocAttr, ↓reduceIte, elemA, he, List.length_map])
          refine VcCall.k (kw) ?_
          (repeat' first | with_reducible (first | intro _ | refine rc ?_ | refine rl ?_ | refine rh ?_ | refine rt ?_ | refine rf ?_ | refine rs ?_ | refine And.intro ?_ ?_) | omega | simp (maxSteps := 1000000) only [go_sem, simprocAttr, ↓reduceIte, hr, e1, e2, e3, e4, e5])
          refine ⟨i + 1, Ent.auto0 rfl ?_ ?_, ⟨by omega, by rw [hL1]; exact hc⟩, by omega⟩ <;> simp only [go_sem, reduceCtorEq, reduceIte, Nat.reduceEqDiff, Nat.reduceLT, Nat.reduceLeDiff, Int.natCast_succ, hL1, ren_sKs, ren_sVs, below_sKs, below_sVs, mk_sKs, mk_sVs]
  · have e : i = l.length := by omega
    subst e
    rw [List.drop_length] at hc
    (repeat' first | with_reducible (first | intro _ | refine rc ?_ | refine rl ?_ | refine rh ?_ | refine rt ?_ | refine rf ?_ | refine rs ?_ | refine And.intro ?_ ?_) | omega | simp (maxSteps := 1000000) only [go_sem, simprocAttr, ↓reduceIte, List.length_map])
    refine Ret.auto 0 ?_ rfl ?_ <;> simp only [go_sem, reduceCtorEq, reduceIte, Nat.reduceEqDiff, Nat.reduceLT, Nat.reduceLeDiff, Int.natCast_succ, Post, ← hc, wdEs]
end Go.Fv.Y
