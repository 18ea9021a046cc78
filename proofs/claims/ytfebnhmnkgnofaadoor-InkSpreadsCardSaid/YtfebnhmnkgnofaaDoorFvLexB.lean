/-
  A part of the proof of the claim: walks over the program's functions and the plain laws that these need. No condition of its own.
-/
import Derived.Test.YtfebnhmnkgnofaaDoorFvLexA
namespace Go.Fv
open Go.RowKit
set_option linter.unusedVariables false
set_option linter.unusedSimpArgs false
set_option linter.unnecessarySimpa false

def bitT (T : List Nat) (i q : Nat) : Bool := (T.getD i 0).testBit q
def mkAnc (ops : Array Oper) : List Nat :=
  ops.toList.foldl (fun acc o => acc ++ [o.after.toList.foldl (fun s e => bif Region.binds .any e then s ||| 2 ^ e.on ||| acc.getD e.on 0 else s) 0]) []
def ownN (es : List Nat) (i : Nat) : Nat := (List.range i).countP fun j => es.elem j
def mkTb (ops : Array Oper) (es : List Nat) (T : List Nat) : List (Nat × List Nat) :=
  (List.range ops.size).filterMap fun i => bif es.elem i then none else
    match (List.range (es.length + 1)).filter (fun k => k != ownN es i && !(es.drop k).any (fun e => bitT T i e) && !(es.take k).any (fun e => bitT T e i)) with
    | [] => none
    | l => some (i, l)
def opAll (ops : Array Oper) (f : Nat → Oper → Bool) : Bool := (List.range ops.size).all fun i => match ops[i]? with
  | some o => f i o
  | none => true
theorem opAll_spec {ops : Array Oper} {f : Nat → Oper → Bool} (h : opAll ops f = true) {i : Nat} {o : Oper} (hi : ops[i]? = some o) : f i o = true := by
  have h1 := List.all_eq_true.1 h i (List.mem_range.2 (Array.getElem?_eq_some_iff.1 hi).1)
  simpa [hi] using h1

def lexOk (ops : Array Oper) (es : List Nat) (tb : List (Nat × List Nat)) (T : List Nat) : Bool :=
  Region.noSelect ops &&
  opAll ops (fun (i : Nat) (o : Oper) => o.after.all fun e => !Region.binds .any e || decide (e.on < i)) &&
  opAll ops (fun (i : Nat) (o : Oper) => (List.range ops.size).all fun q => !bitT T i q || o.after.any fun e => Region.binds .any e && (e.on == q || bitT T e.on q)) &&
  opAll ops (fun (i : Nat) (o : Oper) => match o.dst with
    | none => true
    | some r => opAll ops fun (j : Nat) (oj : Oper) => j == i || oj.dst != some r) &&
  opAll ops (fun (i : Nat) (o : Oper) => opAll ops fun (j : Nat) (oj : Oper) => match oj.dst with
    | none => true
    | some r => !(o.looksAt ops).contains r || (bitT T i j && decide (j < i)) || (!bitT T i j && (decide (i < j) && bitT T j i))) &&
  opAll ops (fun (i : Nat) (o : Oper) => (rOps o.op).all fun x => match x with
    | .tmp t => (o.looksAt ops).contains t
    | _ => true) &&
  (List.range es.length).all (fun k => match es[k]? with
    | some i => decide (i < ops.size) && ownN es i == k && (match es[k + 1]? with
      | some i' => bitT T i' i
      | none => true)
    | none => true) &&
  opAll ops (fun (i : Nat) (o : Oper) => es.elem i || (List.range (es.length + 1)).all fun k => k == ownN es i || (ksOf tb i).contains k || (es.drop k).any (fun e => bitT T i e) || (es.take k).any (fun e => bitT T e i)) &&
  ownN es ops.size == es.length

structure LexOk (ops : Array Oper) (es : List Nat) (tb : List (Nat × List Nat)) (T : List Nat) : Prop where
  sel : Region.noSelect ops = true
  low : ∀ (i : Nat) (o : Oper), ops[i]? = some o → ∀ e, e ∈ o.after → Region.binds .any e = true → e.on < i
  anc : ∀ (i : Nat) (o : Oper), ops[i]? = some o → ∀ q, q < ops.size → bitT T i q = true → ∃ e, e ∈ o.after ∧ Region.binds .any e = true ∧ (e.on = q ∨ bitT T e.on q = true)
  dst : ∀ (i : Nat) (o : Oper) (r j : Nat) (oj : Oper), ops[i]? = some o → ops[j]? = some oj → o.dst = some r → oj.dst = some r → j = i
  look : ∀ (i : Nat) (o : Oper) (r j : Nat) (oj : Oper), ops[i]? = some o → ops[j]? = some oj → oj.dst = some r → r ∈ o.looksAt ops → (bitT T i j = true ∧ j < i) ∨ (bitT T i j = false ∧ i < j ∧ bitT T j i = true)
  reads : ∀ (i : Nat) (o : Oper), ops[i]? = some o → ∀ t, .tmp t ∈ rOps o.op → t ∈ o.looksAt ops
  es1 : ∀ k i, es[k]? = some i → i < ops.size ∧ ownN es i = k
  es2 : ∀ k i i', es[k]? = some i → es[k + 1]? = some i' → bitT T i' i = true
  heaps : ∀ (i : Nat) (o : Oper), ops[i]? = some o → es.elem i = false → ∀ k, k ≤ es.length → k = ownN es i ∨ k ∈ ksOf tb i ∨ (∃ k' e, k ≤ k' ∧ es[k']? = some e ∧ bitT T i e = true) ∨ (∃ k' e, k' < k ∧ es[k']? = some e ∧ bitT T e i = true)
  tot : ownN es ops.size = es.length

theorem LexOk.of {ops : Array Oper} {es : List Nat} {tb : List (Nat × List Nat)} {T : List Nat} (h : lexOk ops es tb T = true) : LexOk ops es tb T := by
  simp only [lexOk, Bool.and_eq_true] at h
  obtain ⟨⟨⟨⟨⟨⟨⟨⟨h1, h2⟩, h3⟩, h4⟩, h5⟩, h6⟩, h7⟩, h8⟩, h9⟩ := h
  refine ⟨h1, ?_, ?_, ?_, ?_, ?_, ?_, ?_, ?_, by simpa using h9⟩
  · intro i o hi e he hb
    have := opAll_spec h2 hi
    have := Array.all_eq_true_iff_forall_mem.1 this e he
    simpa [hb] using this
  · intro i o hi q hq hb
    have := opAll_spec h3 hi
    have := List.all_eq_true.1 this q (List.mem_range.2 hq)
    simp only [hb, Bool.not_true, Bool.false_or] at this
    obtain ⟨e, he, hh⟩ := Array.any_eq_true'.1 this
    simp only [Bool.and_eq_true, Bool.or_eq_true, beq_iff_eq] at hh
    exact ⟨e, he, hh.1, hh.2⟩
  · intro i o r j oj hi hj hd hdj
    have := opAll_spec h4 hi
    rw [hd] at this
    have := opAll_spec this hj
    simp only [Bool.or_eq_true, beq_iff_eq, hdj, bne_self_eq_false, Bool.false_eq_true, or_false] at this
    exact this
  · intro i o r j oj hi hj hd hr
    have := opAll_spec (opAll_spec h5 hi) hj
    rw [hd] at this
    simp only [Bool.or_eq_true, Bool.not_eq_true', Bool.and_eq_true, decide_eq_true_eq] at this
    rcases this with (h0 | h0) | h0
    · have : (o.looksAt ops).contains r = true := by simpa using hr
      rw [this] at h0; cases h0
    · exact .inl h0
    · exact .inr h0
  · intro i o hi t ht
    have := List.all_eq_true.1 (opAll_spec h6 hi) _ ht
    simpa using this
  · intro k i hk
    have hlt : k < es.length := (List.getElem?_eq_some_iff.1 hk).1
    have := List.all_eq_true.1 h7 k (List.mem_range.2 hlt)
    rw [hk] at this
    simp only [Bool.and_eq_true, decide_eq_true_eq, beq_iff_eq] at this
    exact this.1
  · intro k i i' hk hk'
    have hlt : k < es.length := (List.getElem?_eq_some_iff.1 hk).1
    have := List.all_eq_true.1 h7 k (List.mem_range.2 hlt)
    rw [hk, hk'] at this
    simp only [Bool.and_eq_true] at this
    exact this.2
  · intro i o hi he k hk
    have := opAll_spec h8 hi
    rw [he, Bool.false_or] at this
    have := List.all_eq_true.1 this k (List.mem_range.2 (by omega))
    simp only [Bool.or_eq_true, beq_iff_eq, List.any_eq_true, List.contains_iff_mem] at this
    rcases this with ((h0 | h0) | ⟨e, he, hb⟩) | ⟨e, he, hb⟩
    · exact .inl h0
    · exact .inr (.inl h0)
    · obtain ⟨q, hq⟩ := List.mem_iff_getElem?.1 he
      rw [List.getElem?_drop] at hq
      exact .inr (.inr (.inl ⟨k + q, e, by omega, hq, hb⟩))
    · obtain ⟨q, hq⟩ := List.mem_iff_getElem?.1 he
      rw [List.getElem?_take] at hq
      split at hq
      · exact .inr (.inr (.inr ⟨q, e, by assumption, hq, hb⟩))
      · cases hq

def dix (ops : Array Oper) (r : Nat) : Option Nat := (List.range ops.size).find? fun i => match ops[i]? with
  | some o => o.dst == some r
  | none => false
theorem dix_some {ops : Array Oper} {r j : Nat} (h : dix ops r = some j) : ∃ o, ops[j]? = some o ∧ o.dst = some r := by
  have := List.find?_some h
  cases ho : ops[j]? with
  | none => rw [ho] at this; cases this
  | some o => rw [ho] at this; exact ⟨o, rfl, by simpa using this⟩
theorem LexOk.dix {ops : Array Oper} {es : List Nat} {tb : List (Nat × List Nat)} {T : List Nat} (h : LexOk ops es tb T) {i : Nat} {o : Oper} {r : Nat} (hi : ops[i]? = some o) (hd : o.dst = some r) : Fv.dix ops r = some i := by
  cases hx : Fv.dix ops r with
  | none =>
    have := List.find?_eq_none.1 hx i (List.mem_range.2 (Array.getElem?_eq_some_iff.1 hi).1)
    simp [hi, hd] at this
  | some j =>
    obtain ⟨oj, hj, hdj⟩ := dix_some hx
    rw [h.dst i o r j oj hi hj hd hdj]

section
variable {P : Program} {w0 : World} {T0 : Nat → Prop} {ops : Array Oper} {es : List Nat} {tb : List (Nat × List Nat)} {T : List Nat}

/-- The registers at the i-th operation, in the text's order. -/
def lexG (ops : Array Oper) (s0 : S) (vs : List AV) (i r : Nat) : AV := match dix ops r with
  | some j => if j < i then vs.getD j .dead else s0.get r
  | none => s0.get r

theorem QS.congr {o : Oper} {n : Nat} {get get' : Nat → AV} {h h' : HpS} {v : AV} (hq : QS P w0 T0 ops o n get h h' v) (he : ∀ r, r ∈ o.looksAt ops → get' r = get r) : QS P w0 T0 ops o n get' h h' v :=
  fun env hen => hq env fun r hr => (hen r hr).trans (he r hr)

structure LexDone (P : Program) (w0 : World) (T0 : Nat → Prop) (ops : Array Oper) (es : List Nat) (s0 : S) (i : Nat) (vs : List AV) (hs : List HpS) : Prop where
  quiet : ∀ j o, j < i → ops[j]? = some o → es.elem j = false → ∃ h, hs[ownN es j]? = some h ∧ QS P w0 T0 ops o s0.n (lexG ops s0 vs j) h h (vs.getD j .dead)
  eff : ∀ j o, j < i → ops[j]? = some o → es.elem j = true → ∃ h h', hs[ownN es j]? = some h ∧ hs[ownN es j + 1]? = some h' ∧ QS P w0 T0 ops o s0.n (lexG ops s0 vs j) h h' (vs.getD j .dead)
  put : ∀ j o d, j < i → ops[j]? = some o → o.dst = some d → d < s0.n

def LexAcc (P : Program) (w0 : World) (T0 : Nat → Prop) (ops : Array Oper) (es : List Nat) (tb : List (Nat × List Nat)) (s0 : S) (i : Nat) (vs : List AV) (good : Nat → HpS → Prop) : Prop :=
  ∀ j o, j < i → ops[j]? = some o → es.elem j = false → ∀ k, k ∈ ksOf tb j → ∀ h, good j h → QS P w0 T0 ops o s0.n (lexG ops s0 vs j) h h (vs.getD j .dead)

theorem lexG_app {s0 : S} {vs : List AV} {v : AV} {j : Nat} (h : j ≤ vs.length) (r : Nat) : lexG ops s0 (vs ++ [v]) j r = lexG ops s0 vs j r := by
  unfold lexG
  split
  · rename_i q _
    split
    · rename_i hq
      simp only [List.getD_eq_getElem?_getD]
      rw [List.getElem?_append_left (by omega)]
    · rfl
  · rfl
theorem getD_app {vs : List AV} {v : AV} {j : Nat} (h : j < vs.length) : (vs ++ [v]).getD j .dead = vs.getD j .dead := by
  simp only [List.getD_eq_getElem?_getD]
  rw [List.getElem?_append_left h]
theorem getD_app_last {vs : List AV} {v : AV} : (vs ++ [v]).getD vs.length .dead = v := by
  simp [List.getD_eq_getElem?_getD]
theorem ownN_succ (i : Nat) : ownN es (i + 1) = ownN es i + (bif es.elem i then 1 else 0) := by
  unfold ownN
  rw [List.range_succ, List.countP_append, List.countP_singleton]
  cases es.elem i <;> rfl
theorem ownN_add (j : Nat) : ∀ k, ownN es j ≤ ownN es (j + k)
  | 0 => Nat.le_refl _
  | k + 1 => Nat.le_trans (ownN_add j k) (by rw [← Nat.add_assoc, ownN_succ]; exact Nat.le_add_right _ _)
theorem ownN_le {j i : Nat} (h : j ≤ i) : ownN es j ≤ ownN es i := by
  have := ownN_add (es := es) j (i - j)
  rwa [Nat.add_sub_cancel' h] at this

/-- The redo list: each of these is shown at each of its heaps. -/
def redoC (P : Program) (w0 : World) (T0 : Nat → Prop) (n : Nat) (x : Acc) (h : HpS) : Prop := match x.g with
  | none => qVc P w0 T0 x.o ⟨n, x.env, h.1, h.2⟩ x.v
  | some c => Fv.below h.2 x.v = true ∧ (c = true → qVc P w0 T0 x.o ⟨n, x.env, h.1, h.2⟩ x.v)
theorem redo1_spec {n : Nat} {x : Acc} {hs : List HpS} : ∀ {l : List Nat}, redo1 P w0 T0 n x hs l → ∀ k, k ∈ l → ∃ h, hs[k]? = some h ∧ redoC P w0 T0 n x h
  | k' :: l, h, k, hk => by
    unfold redo1 at h
    rcases List.mem_cons.1 hk with rfl | hk
    · cases hh : hs[k]? with
      | none => rw [hh] at h; exact h.1.elim
      | some q => rw [hh] at h; exact ⟨q, rfl, h.1⟩
    · exact redo1_spec h.2 k hk
theorem redo_spec {n : Nat} {hs : List HpS} (l : List Acc) (h : redo P w0 T0 n hs l) (x : Acc) (hx : x ∈ l) (k : Nat) (hk : k ∈ x.ks) : ∃ h, hs[k]? = some h ∧ redoC P w0 T0 n x h := by
  induction l with
  | nil => cases hx
  | cons y l ih =>
    obtain ⟨h1, h2⟩ := (h : redo1 P w0 T0 n y hs y.ks ∧ redo P w0 T0 n hs l)
    rcases List.mem_cons.1 hx with rfl | hx
    · exact redo1_spec h1 k hk
    · exact ih h2 hx
theorem mem_accPut {ks : List Nat} {x y : Acc} {l : List Acc} (h : y ∈ l) : y ∈ accPut ks x l := by
  unfold accPut; split
  · exact h
  · exact .tail _ h
theorem mem_accPut' {ks : List Nat} {x : Acc} {l : List Acc} {k : Nat} (h : k ∈ ks) : x ∈ accPut ks x l := by
  unfold accPut; split
  · cases h
  · exact .head _

/-- What is held of the operations before the i-th, for the heaps besides. -/
def LexRe (P : Program) (w0 : World) (T0 : Nat → Prop) (ops : Array Oper) (es : List Nat) (tb : List (Nat × List Nat)) (s0 : S) (i : Nat) (vs : List AV) (acc : List Acc) : Prop :=
  ∀ j o, j < i → ops[j]? = some o → es.elem j = false → ∀ k, k ∈ ksOf tb j →
    (∀ h, QS P w0 T0 ops o s0.n (lexG ops s0 vs j) h h (vs.getD j .dead)) ∨ ∃ x, x ∈ acc ∧ x.ks = ksOf tb j ∧ ∀ h, redoC P w0 T0 s0.n x h → QS P w0 T0 ops o s0.n (lexG ops s0 vs j) h h (vs.getD j .dead)

/-- The step of the walk: the i-th operation is done. -/
theorem lex_put (hok : LexOk ops es tb T) {s0 s : S} {i : Nat} {o : Oper} {vs : List AV} {hs hs' : List HpS} {v : AV} {Q : S → Prop} (hi : ops[i]? = some o) (hlen : vs.length = i) (hn : s.n = s0.n) (hget : ∀ r, s.get r = lexG ops s0 vs i r)
    (hd : LexDone P w0 T0 ops es s0 i vs hs) (hlh : hs.length = ownN es i + 1) (hpre : ∀ (k : Nat) (h : HpS), hs[k]? = some h → hs'[k]? = some h)
    (hq : es.elem i = false → ∃ h, hs'[ownN es i]? = some h ∧ QS P w0 T0 ops o s0.n (lexG ops s0 vs i) h h v)
    (he : es.elem i = true → ∃ h h', hs'[ownN es i]? = some h ∧ hs'[ownN es i + 1]? = some h' ∧ QS P w0 T0 ops o s0.n (lexG ops s0 vs i) h h' v)
    (hput : vcPut o.dst v s Q) : ∃ s', Q s' ∧ s'.n = s0.n ∧ s'.rows = s.rows ∧ s'.next = s.next ∧ (∀ r, s'.get r = lexG ops s0 (vs ++ [v]) (i + 1) r) ∧ LexDone P w0 T0 ops es s0 (i + 1) (vs ++ [v]) hs' := by
  have hnew : ∀ d, o.dst = some d → lexG ops s0 (vs ++ [v]) (i + 1) d = v := by
    intro d hdd
    unfold lexG
    rw [hok.dix hi hdd]
    simp only [Nat.lt_succ_self, if_true]
    rw [← hlen]; exact getD_app_last
  have hold : ∀ r, o.dst ≠ some r → lexG ops s0 (vs ++ [v]) (i + 1) r = s.get r := by
    intro r hr
    rw [hget]
    unfold lexG
    cases hx : dix ops r with
    | none => rfl
    | some j =>
      dsimp only
      have hne : j ≠ i := by
        rintro rfl
        obtain ⟨oj, hj, hdj⟩ := dix_some hx
        rw [hi] at hj; cases hj
        exact hr hdj
      by_cases hji : j < i
      · rw [if_pos hji, if_pos (by omega), getD_app (by omega)]
      · rw [if_neg hji, if_neg (by omega)]
  have hdone : (∀ d, o.dst = some d → d < s0.n) → LexDone P w0 T0 ops es s0 (i + 1) (vs ++ [v]) hs' := by
    intro hdn
    refine ⟨?_, ?_, ?_⟩
    · intro j oj hj hoj hej
      by_cases e : j = i
      · subst e
        rw [hi] at hoj; cases hoj
        obtain ⟨h, hh, hqs⟩ := hq hej
        refine ⟨h, hh, ?_⟩
        rw [show (vs ++ [v]).getD j .dead = v from by rw [← hlen]; exact getD_app_last]
        exact hqs.congr fun r _ => lexG_app (by omega) r
      · obtain ⟨h, hh, hqs⟩ := hd.quiet j oj (by omega) hoj hej
        refine ⟨h, hpre _ _ hh, ?_⟩
        rw [getD_app (by omega)]
        exact hqs.congr fun r _ => lexG_app (by omega) r
    · intro j oj hj hoj hej
      by_cases e : j = i
      · subst e
        rw [hi] at hoj; cases hoj
        obtain ⟨h, h', hh, hh', hqs⟩ := he hej
        refine ⟨h, h', hh, hh', ?_⟩
        rw [show (vs ++ [v]).getD j .dead = v from by rw [← hlen]; exact getD_app_last]
        exact hqs.congr fun r _ => lexG_app (by omega) r
      · obtain ⟨h, h', hh, hh', hqs⟩ := hd.eff j oj (by omega) hoj hej
        refine ⟨h, h', hpre _ _ hh, hpre _ _ hh', ?_⟩
        rw [getD_app (by omega)]
        exact hqs.congr fun r _ => lexG_app (by omega) r
    · intro j oj d hj hoj hdj
      by_cases e : j = i
      · subst e
        rw [hi] at hoj; cases hoj
        exact hdn d hdj
      · exact hd.put j oj d (by omega) hoj hdj
  unfold vcPut at hput
  cases hdst : o.dst with
  | none =>
    rw [hdst] at hput
    exact ⟨s, hput, hn, rfl, rfl, fun r => (hold r (by rw [hdst]; simp)).symm, hdone fun d h => by rw [hdst] at h; cases h⟩
  | some d =>
    rw [hdst] at hput
    dsimp only at hput
    split at hput
    · rename_i hlt
      refine ⟨s.set d v, hput, hn, rfl, rfl, fun r => ?_, hdone fun d' h => by rw [hdst] at h; cases h; rw [← hn]; exact hlt⟩
      by_cases e : d = r
      · subst e
        rw [hnew d hdst]
        simp [S.get, S.set, lk]
      · rw [hold r (by rw [hdst]; simpa using e)]
        simp [S.get, S.set, lk, e]
    · exact hput.elim
end
end Go.Fv
