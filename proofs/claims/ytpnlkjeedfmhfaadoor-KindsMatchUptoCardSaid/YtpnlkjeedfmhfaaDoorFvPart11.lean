/-
  A part of the proof of the claim: walks over the program's functions and the plain laws that these need. No condition of its own.
-/
import Derived.Test.YtpnlkjeedfmhfaaDoorFvPart10
import Derived.Test.YtpnlkjeedfmhfaaDoorFvPart6
import Derived.Shelf.Vars
import Derived.Handed
/-
  What arrives, with a bound: 'B' tells how much a reading holds; what it says of the whole it says of each part.
-/

namespace Go.Fv
set_option linter.unusedSectionVars false
open Go.RowKit
set_option linter.unusedVariables false
set_option linter.unusedSimpArgs false
/-- A measure of readings: parts have no more than the whole. -/
structure Bulk (H : Type) (B : DataW H → Nat) (BA : List (DataW H) → Nat) : Prop where
  str : ∀ s, B (.lit (.string s)) = s.length + 1
  sl : ∀ l m, B (.slice l m) = BA l + BA m + 1
  ag : ∀ l, B (.agg l) = BA l + 1
  nil : BA [] = 0
  cons : ∀ d r, BA (d :: r) = B d + BA r
  pos : ∀ d, 1 ≤ B d
theorem Bulk.mem {H : Type} {B : DataW H → Nat} {BA : List (DataW H) → Nat} (hB : Bulk H B BA) : ∀ {l : List (DataW H)} {d : DataW H}, d ∈ l → B d ≤ BA l
  | e :: l, d, h => by
    rw [hB.cons]
    cases List.mem_cons.1 h with
    | inl h => subst h; omega
    | inr h => have := hB.mem h; omega
theorem Bulk.len {H : Type} {B : DataW H → Nat} {BA : List (DataW H) → Nat} (hB : Bulk H B BA) : ∀ {l : List (DataW H)}, l.length ≤ BA l
  | [] => Nat.zero_le _
  | e :: l => by
    rw [hB.cons, List.length_cons]
    have := hB.len (l := l)
    have := hB.pos e
    omega
section
variable {H : Type} {B : DataW H → Nat} {BA : List (DataW H) → Nat} (hB : Bulk H B BA) (N : Nat) {enc : TypeId × Value → H} {P : Program} {w : World} {t : TypeId} {cs : List Value} {x : DataW H × List MemPlace}
include hB
theorem Rd.strI (ht : P.underlying t = some .string) (h : Rd enc P w t cs x) : ∃ s : List UInt8, RvL (cIn w) [.str s] cs ∧ (B x.1 ≤ N → s.length ≤ N) := by
  obtain ⟨s, hx, hv⟩ := h.str ht
  refine ⟨s, hv, fun hb => ?_⟩
  rw [hx, hB.str] at hb; omega
omit hB in
theorem All2.mem {α β : Type} {R : α → β → Prop} {l : List α} {m : List β} (h : All2 R l m) : ∀ a, a ∈ l → ∃ b, b ∈ m ∧ R a b := by
  induction h with
  | nil => intro a ha; cases ha
  | cons h _ ih =>
    intro a ha
    cases List.mem_cons.1 ha with
    | inl e => subst e; exact ⟨_, .head _, h⟩
    | inr e => obtain ⟨b, hb, hr⟩ := ih a e; exact ⟨b, .tail _ hb, hr⟩
theorem Rd.rowI {e : TypeId} {β : Type} (ht : P.underlying t = some (.slice e)) (row : List β → RowV) (hlen : ∀ l, (row l).len = l.length) (hnil : RowC (cIn w) (row []) [])
    (R : β → List Value → Prop) (hrow : ∀ l vss, All2 R l vss → RowC (cIn w) (row l) vss.flatten)
    (I : β → Prop) (hel : ∀ vs y, Rd enc P w e vs y → ∃ b, R b vs ∧ (B y.1 ≤ N → I b)) (h : Rd enc P w t cs x) :
    ∃ l : List β, RvL (cIn w) [.ro (row l)] cs ∧ (B x.1 ≤ N → l.length ≤ N ∧ ∀ b, b ∈ l → I b) := by
  obtain ⟨l, h1, h2⟩ := Rd.row ht row hlen hnil R hrow (fun b d => B d ≤ N → I b) hel h
  refine ⟨l, h1, fun hb => ?_⟩
  rcases h2 with ⟨_, rfl⟩ | ⟨ds, sp, e, h3⟩
  · exact ⟨Nat.zero_le _, fun b hb => by cases hb⟩
  · rw [e, hB.sl] at hb
    have hl := hB.len (l := ds)
    rw [← h3.length] at hl
    refine ⟨by omega, fun b hm => ?_⟩
    obtain ⟨d, hd, hi⟩ := h3.mem b hm
    have := hB.mem hd
    exact hi (by omega)
theorem Rd.boolsI {e : TypeId} (ht : P.underlying t = some (.slice e)) (he : P.underlying e = some .bool) (h : Rd enc P w t cs x) : ∃ l : List Bool, RvL (cIn w) [.ro (.bools l)] cs ∧ (B x.1 ≤ N → l.length ≤ N) := by
  obtain ⟨l, h1, h2⟩ := Rd.rowI (β := Bool) hB N ht .bools (fun _ => rfl) (.bools []) (fun b vs => vs = [.bool b]) (fun l vss hv => by
    have : vss.flatten = l.map Value.bool := by induction hv with | nil => rfl | cons h _ ih => subst h; simp [ih]
    rw [this]; exact .bools l) (fun _ => True) (fun vs y hy => by
      obtain ⟨f, hy⟩ := hy
      obtain ⟨b, rfl, _⟩ := DataW.trod_bool he hy
      exact ⟨b, rfl, fun _ => trivial⟩) h
  exact ⟨l, h1, fun hb => (h2 hb).1⟩
theorem Rd.intsI {e : TypeId} {k : IntKind} (ht : P.underlying t = some (.slice e)) (he : P.underlying e = some (.int k)) (h : Rd enc P w t cs x) : ∃ l : List Int, RvL (cIn w) [.ro (.ints k l)] cs ∧ (B x.1 ≤ N → l.length ≤ N) := by
  obtain ⟨l, h1, h2⟩ := Rd.rowI (β := Int) hB N ht (.ints k) (fun _ => rfl) (.ints k [] (fun x hx => by cases hx)) (fun n vs => vs = [.int k n] ∧ InK k n) (fun l vss hv => by
    have : vss.flatten = l.map (Value.int k) ∧ ∀ n, n ∈ l → InK k n := by
      induction hv with
      | nil => exact ⟨rfl, fun n hn => by cases hn⟩
      | cons h _ ih =>
        obtain ⟨rfl, h2⟩ := h
        refine ⟨by simp [ih.1], fun n hn => ?_⟩
        cases List.mem_cons.1 hn with
        | inl e => subst e; exact h2
        | inr e => exact ih.2 n e
    rw [this.1]; exact .ints k l this.2) (fun _ => True) (fun vs y hy => by
      obtain ⟨f, hy⟩ := hy
      obtain ⟨n, rfl, _, hw⟩ := DataW.trod_int he hy
      exact ⟨n, ⟨rfl, InK_wf hw⟩, fun _ => trivial⟩) h
  exact ⟨l, h1, fun hb => (h2 hb).1⟩
theorem Rd.strsI {e : TypeId} (ht : P.underlying t = some (.slice e)) (he : P.underlying e = some .string) (h : Rd enc P w t cs x) : ∃ l : List (List UInt8), RvL (cIn w) [.ro (.strs l)] cs ∧ (B x.1 ≤ N → l.length ≤ N ∧ ∀ s, s ∈ l → s.length ≤ N) :=
  Rd.rowI (β := List UInt8) hB N ht .strs (fun _ => rfl) (.strs [] (fun x hx => by cases hx)) (fun b vs => RvL (cIn w) [.str b] vs) (fun l vss hv => by
    have : vss.flatten = l.map (fun s => Value.string ⟨s.toArray⟩) ∧ ∀ s, s ∈ l → s.length ≤ maxLen := by
      induction hv with
      | nil => exact ⟨rfl, fun s hs => by cases hs⟩
      | cons h _ ih =>
        obtain ⟨rfl, hl⟩ := h.str1
        refine ⟨by simp [ih.1], fun s hs => ?_⟩
        cases List.mem_cons.1 hs with
        | inl e => subst e; exact hl
        | inr e => exact ih.2 s e
    rw [this.1]; exact .strs l this.2) (fun s => s.length ≤ N) (fun vs y hy => hy.strI hB N he) h
theorem Rd.objsI {e : TypeId} {β : Type} (ht : P.underlying t = some (.slice e)) (n : Nat) (hn : 0 < n) (av : β → List AV) (hlen : ∀ b, (av b).length = n) (I : β → Prop)
    (hel : ∀ vs y, Rd enc P w e vs y → ∃ b, RvL (cIn w) (av b) vs ∧ (B y.1 ≤ N → I b)) (h : Rd enc P w t cs x) : ∃ l : List β, RvL (cIn w) [.ro (.objs n (l.map av))] cs ∧ (B x.1 ≤ N → l.length ≤ N ∧ ∀ b, b ∈ l → I b) :=
  Rd.rowI hB N ht (fun l => .objs n (l.map av)) (fun l => by simp [RowV.len]) (.objs n [] [] hn (.nil n)) (fun b vs => RvL (cIn w) (av b) vs) (fun l vss hv => by
    refine .objs n _ _ hn ?_
    induction hv with
    | nil => exact .nil n
    | cons h _ ih => exact .cons n _ _ _ _ h (by rw [h.length]; exact hlen _) ih) I hel h
/-- A field, and what it holds. -/
theorem Rd.atI {fs : Array Field} (ht : P.underlying t = some (.struct fs)) (h : Rd enc P w t cs x) (i : Nat) (f : Field) (hf : fs[i]? = some f) (o n : Nat) (ho : f.offset = o) (hn : P.cellsOf f.type = n) : ∃ y, Rd enc P w f.type ((cs.drop o).take n) y ∧ B y.1 ≤ B x.1 := by
  obtain ⟨_, xs, hx1, _, hx⟩ := h.fields ht
  obtain ⟨y, hg, hy⟩ := hx i f hf
  rw [ho, hn] at hy
  refine ⟨y, hy, ?_⟩
  rw [hx1, hB.ag]
  have := hB.mem (l := xs.map (·.1)) (d := y.1) (List.mem_map_of_mem (List.mem_of_getElem? hg))
  omega
theorem Rd.s2I {f0 f1 : Field} (ht : P.underlying t = some (.struct #[f0, f1])) (a b : Nat) (hc : P.cellsOf t = a + b) (o : f0.offset = 0 ∧ f1.offset = a) (c : P.cellsOf f0.type = a ∧ P.cellsOf f1.type = b)
    {α β : Type} {av : α → List AV} {bv : β → List AV} {I0 : α → Prop} {I1 : β → Prop} (h0 : ∀ cs x, Rd enc P w f0.type cs x → ∃ l, RvL (cIn w) (av l) cs ∧ (B x.1 ≤ N → I0 l)) (h1 : ∀ cs x, Rd enc P w f1.type cs x → ∃ l, RvL (cIn w) (bv l) cs ∧ (B x.1 ≤ N → I1 l)) (h : Rd enc P w t cs x) :
    ∃ l m, RvL (cIn w) (av l ++ bv m) cs ∧ (B x.1 ≤ N → I0 l ∧ I1 m) := by
  obtain ⟨y0, r0, b0⟩ := h.atI hB ht 0 f0 rfl _ _ o.1 c.1
  obtain ⟨y1, r1, b1⟩ := h.atI hB ht 1 f1 rfl _ _ o.2 c.2
  obtain ⟨l, v0, i0⟩ := h0 _ _ r0
  obtain ⟨m, v1, i1⟩ := h1 _ _ r1
  refine ⟨l, m, ?_, fun hb => ⟨i0 (by omega), i1 (by omega)⟩⟩
  rw [cut2 cs a b (by rw [h.len ht, hc])]
  exact v0.app v1
theorem Rd.s3I {f0 f1 f2 : Field} (ht : P.underlying t = some (.struct #[f0, f1, f2])) (a b d : Nat) (hc : P.cellsOf t = a + b + d) (o : f0.offset = 0 ∧ f1.offset = a ∧ f2.offset = a + b) (c : P.cellsOf f0.type = a ∧ P.cellsOf f1.type = b ∧ P.cellsOf f2.type = d)
    {α β γ : Type} {av : α → List AV} {bv : β → List AV} {gv : γ → List AV} {I0 : α → Prop} {I1 : β → Prop} {I2 : γ → Prop} (h0 : ∀ cs x, Rd enc P w f0.type cs x → ∃ l, RvL (cIn w) (av l) cs ∧ (B x.1 ≤ N → I0 l)) (h1 : ∀ cs x, Rd enc P w f1.type cs x → ∃ l, RvL (cIn w) (bv l) cs ∧ (B x.1 ≤ N → I1 l)) (h2 : ∀ cs x, Rd enc P w f2.type cs x → ∃ l, RvL (cIn w) (gv l) cs ∧ (B x.1 ≤ N → I2 l)) (h : Rd enc P w t cs x) :
    ∃ l m n, RvL (cIn w) (av l ++ (bv m ++ gv n)) cs ∧ (B x.1 ≤ N → I0 l ∧ I1 m ∧ I2 n) := by
  obtain ⟨y0, r0, b0⟩ := h.atI hB ht 0 f0 rfl _ _ o.1 c.1
  obtain ⟨y1, r1, b1⟩ := h.atI hB ht 1 f1 rfl _ _ o.2.1 c.2.1
  obtain ⟨y2, r2, b2⟩ := h.atI hB ht 2 f2 rfl _ _ o.2.2 c.2.2
  obtain ⟨l, v0, i0⟩ := h0 _ _ r0
  obtain ⟨m, v1, i1⟩ := h1 _ _ r1
  obtain ⟨n, v2, i2⟩ := h2 _ _ r2
  refine ⟨l, m, n, ?_, fun hb => ⟨i0 (by omega), i1 (by omega), i2 (by omega)⟩⟩
  rw [cut3 cs a b d (by rw [h.len ht, hc])]
  exact v0.app (v1.app v2)
omit hB in
theorem Rd.anyI {α : Type} {av : α → List AV} {I : Prop} (h : ∃ l, RvL (cIn w) (av l) cs) : ∃ l, RvL (cIn w) (av l) cs ∧ (I → True) := by
  obtain ⟨l, h⟩ := h; exact ⟨l, h, fun _ => trivial⟩
theorem arg_objsI {base : Nat} {v : Value} {d : DataW H} {ps : List MemPlace} {e : TypeId} {β : Type} (ht : P.underlying t = some (.slice e)) (n : Nat) (hn : 0 < n) (av : β → List AV) (hlen : ∀ b, (av b).length = n) (I : β → Prop)
    (hel : ∀ vs y, Rd enc P w e vs y → ∃ b, RvL (cIn w) (av b) vs ∧ (B y.1 ≤ N → I b)) (hv : Value.okWide P w .any base t v) (h : DataW.Trod enc P w 0 (fun _ => true) true t v d ps) (hb : B d ≤ N) :
    ∃ l : List β, l.length ≤ N ∧ (∀ b, b ∈ l → I b) ∧ Rv (cIn w) (.ro (.objs n (l.map av))) v := by
  obtain ⟨b, hk, h2⟩ := (Trod.rd h).objsI hB N ht n hn av hlen I hel
  rw [arg_one ht (.inr (.inr (.inr ⟨e, rfl⟩))) hv] at hk
  exact ⟨b, (h2 hb).1, (h2 hb).2, hk.hd⟩
theorem arg_strsI {base : Nat} {v : Value} {d : DataW H} {ps : List MemPlace} {e : TypeId} (ht : P.underlying t = some (.slice e)) (he : P.underlying e = some .string) (hv : Value.okWide P w .any base t v) (h : DataW.Trod enc P w 0 (fun _ => true) true t v d ps) (hb : B d ≤ N) :
    ∃ l : List (List UInt8), l.length ≤ N ∧ (∀ s, s ∈ l → s.length ≤ N) ∧ Rv (cIn w) (.ro (.strs l)) v := by
  obtain ⟨b, hk, h2⟩ := (Trod.rd h).strsI hB N ht he
  rw [arg_one ht (.inr (.inr (.inr ⟨e, rfl⟩))) hv] at hk
  exact ⟨b, (h2 hb).1, (h2 hb).2, hk.hd⟩
theorem arg_intsI {base : Nat} {v : Value} {d : DataW H} {ps : List MemPlace} {e : TypeId} {k : IntKind} (ht : P.underlying t = some (.slice e)) (he : P.underlying e = some (.int k)) (hv : Value.okWide P w .any base t v) (h : DataW.Trod enc P w 0 (fun _ => true) true t v d ps) (hb : B d ≤ N) :
    ∃ l : List Int, l.length ≤ N ∧ Rv (cIn w) (.ro (.ints k l)) v := by
  obtain ⟨b, hk, h2⟩ := (Trod.rd h).intsI hB N ht he
  rw [arg_one ht (.inr (.inr (.inr ⟨e, rfl⟩))) hv] at hk
  exact ⟨b, h2 hb, hk.hd⟩
theorem arg_strI {base : Nat} {v : Value} {d : DataW H} {ps : List MemPlace} (ht : P.underlying t = some .string) (hv : Value.okWide P w .any base t v) (h : DataW.Trod enc P w 0 (fun _ => true) true t v d ps) (hb : B d ≤ N) :
    ∃ s : List UInt8, s.length ≤ N ∧ Rv (cIn w) (.str s) v := by
  obtain ⟨b, hk, h2⟩ := (Trod.rd h).strI hB N ht
  rw [arg_one ht (.inr (.inr (.inl rfl))) hv] at hk
  exact ⟨b, h2 hb, hk.hd⟩
end
end Go.Fv

/-
  What a row's first world gives of package-level integers.
-/

namespace Go.Fv
set_option linter.unusedSectionVars false
open Go.RowKit Go.ChangeShapes Go.WideShapes
set_option linter.unusedVariables false
set_option linter.unusedSimpArgs false

def shBlk (w : World) (P : Program) (g : Nat) (k : IntKind) : Bool := match (w.heap[g]?).bind Obj.row? with
  | some (zero, t) => decide (zero.size = 1) && P.buildable t && decide (P.cellTypes P.depth t = some [t]) && (match P.underlying t with | some (.int k') => decide (k' = k) | _ => false)
  | none => false
/-- Each package-level variable of an integer type has one cell of that type. -/
def shOk (P : Program) : Bool := (List.range P.globals.size).all fun g => match intGl P g with
  | some k => shBlk (begin P (fun _ _ => 0) default).world P g k
  | none => true
theorem GlOk.of_shaped {P : Program} {w : World} (hs : shOk P = true) (h : w.ShapedOpen P) : GlOk P w := by
  intro g k hg
  have hlt : g < P.globals.size := by
    by_cases hlt : g < P.globals.size
    · exact hlt
    · unfold intGl at hg
      rw [Array.getElem?_eq_none (Nat.le_of_not_lt hlt)] at hg
      cases hg
  have h1 := List.all_eq_true.1 hs g (List.mem_range.2 hlt)
  rw [hg] at h1
  dsimp only at h1
  unfold shBlk at h1
  split at h1
  · rename_i zero t hz
    simp only [Bool.and_eq_true, decide_eq_true_eq] at h1
    obtain ⟨⟨⟨hz1, hb⟩, hc⟩, hu⟩ := h1
    have hu : P.underlying t = some (.int k) := by
      split at hu
      · rename_i k' e; rw [e, of_decide_eq_true hu]
      · cases hu
    obtain ⟨cs, hh, hsz, hr⟩ := h.1 g zero t hlt hz
    obtain ⟨ts, hts, _, hall⟩ := hr hb
    rw [hc] at hts
    cases hts
    have h1 : 0 < cs.size := by omega
    obtain ⟨u, hu', hok⟩ := hall 0 cs[0] (by simp [h1])
    have : u = t := by simpa using hu'.symm
    subst this
    unfold Cell.ok at hok
    rw [hu] at hok
    have e : cs = #[cs[0]] := by
      apply Array.ext
      · simp; omega
      · intro i h1 h2
        simp at h2
        subst h2; simp
    cases hv : cs[0] <;> rw [hv] at hok <;> simp at hok
    case int k' n =>
      obtain ⟨rfl, hk⟩ := hok
      refine ⟨n, u, ?_, by rw [hh, e, hv]⟩
      exact hk
  · cases h1

variable {H : Type} {enc : TypeId × Value → H}
/-- As the kit's, the world's shape handed on. -/
theorem handed_of_change {a : Assume} {C : Checked} {os : Os} {f : FuncId} {fn : Func} {s : ChangeSpec} {conds : List PathCond} {apart fresh handsOn again : Bool} {X : World → Array Value → Prop}
    (hX : ∀ (w w' : World) (args : Array Value), w.heap = w'.heap → X w args → X w' args)
    (own : ownKnob C.prog.godebug = none) (started : os.Started) (noInit : C.prog.inits.idxOf? f = none) (hfn : C.prog.funcs[f]? = some fn)
    (witness : ∃ (w : World) (tape : Tape) (i : Input), w.os = os ∧ (w.forCall tape i).Shaped C.prog ∧ i.vars = [] ∧ Input.okWide C.prog (w.forCall tape i) .any w.heap.size f i ∧
      ((s.pre enc C.prog fn conds apart (w.forCall tape i).memory i.args ∧ X (w.forCall tape i).memory i.args) ∧ sizedMet enc C.prog fn (OpenSpec.ofChange s) apart (w.forCall tape i).memory i.args) ∧ a.holds C.prog (lone (Frame.enter C.prog f i.args .normal) [] (w.forCall tape i)))
    (contract : ∀ (W : World) (base : Nat) (args : Array Value) (ds gs : List (DataW H)) (before : List MemPlace), W.ShapedOpen C.prog →
      (∀ (j : Nat) t v, fn.params[j]? = some t → args[j]? = some v → Value.okWide C.prog W .any base t v) →
      DataW.Whole enc C.prog fn.params.toList s.vars apart W args.toList ds gs before →
      Calls C.prog f args W fun e W' => ∃ v, e = .returned v ∧ s.post enc C.prog fn apart fresh handsOn again W args v W') :
    ReturnsInHanded a C os f .any (fun w args => (s.pre enc C.prog fn conds apart w args ∧ X w args) ∧ sizedMet enc C.prog fn (OpenSpec.ofChange s) apart w args) (s.post enc C.prog fn apart fresh handsOn again) := by
  refine returnsInHanded_of_calls own started noInit witness ?_
  intro w tape i _ hsh _ hok hpre hholds
  obtain ⟨_, _, _, fn', hfn', _, _, _, _, hval⟩ := hok
  have e : fn' = fn := Option.some.inj (hfn'.symm.trans hfn)
  subst e
  obtain ⟨⟨⟨ds, gs, before, hw, hc⟩, hx⟩, hz⟩ := hpre
  have hw' := DataW.Whole.of_heap (w' := w.forCall tape i) (by rfl) hw
  refine (contract (w.forCall tape i) w.heap.size i.args ds gs before hsh hval hw').mono fun e W' ⟨v, he, hp⟩ => ?_
  subst he
  exact ChangeSpec.post_blind hp
end Go.Fv
