/-
  A part of the proof of the claim: walks over the program's functions and the plain laws that these need. No condition of its own.
-/
import Derived.Test.YtgjeejogiohefaaGreatDoorFvPart8
import Derived.Test.YtgjeejogiohefaaGreatDoorFvPart7
namespace Go.Fv
set_option linter.unusedSectionVars false
open Go.RowKit
set_option linter.unusedVariables false
set_option linter.unusedSimpArgs false
set_option linter.unnecessarySimpa false

section
variable {P : Program} {w0 : World} {T0 : Bs} {b0 : Nat} {ops : Array Oper} {es : List Nat} {tb : List (Nat × List Nat)} {T : List Nat} {H : List (AV × Value)} [hG : GlB P w0 T0]

theorem getD_lo {L : Array Bool} {i : Nat} (h : L.getD i true = false) : L.getD i false = false := by
  rcases Nat.lt_or_ge i L.size with h' | h'
  · simpa [h'] using h
  · simp [Array.getElem?_eq_none h']
theorem getD_hi {L : Array Bool} {i : Nat} (hi : i < L.size) (h : L.getD i false = false) : L.getD i true = false := by
  simpa [hi] using h
theorem getD_rep (m j : Nat) : (Array.replicate m false).getD j false = false := by
  rcases Nat.lt_or_ge j m with h | h
  · simp [h]
  · simp [Array.getElem?_eq_none, h]

def openN (L : Array Bool) (n : Nat) : Nat := (List.range n).countP fun j => !L.getD j false
theorem openN_set {L : Array Bool} {i : Nat} (hs : i < L.size) (hi : L.getD i false = false) : ∀ n, openN (L.setIfInBounds i true) n + (if i < n then 1 else 0) = openN L n
  | 0 => by simp [openN]
  | n + 1 => by
    have ih := openN_set hs hi n
    unfold openN at *
    rw [List.range_succ, List.countP_append, List.countP_append, List.countP_singleton, List.countP_singleton]
    by_cases e : i = n
    · subst e
      have h1 : (L.setIfInBounds i true).getD i false = true := by simp [hs]
      rw [h1, hi]
      simp at ih ⊢
      omega
    · rw [getD_set_ne false e]
      by_cases h2 : i < n
      · rw [if_pos h2] at ih; rw [if_pos (show i < n + 1 by omega)]; omega
      · rw [if_neg h2] at ih; rw [if_neg (show ¬ i < n + 1 by omega)]; omega
theorem openN_zero {L : Array Bool} {n : Nat} (h : openN L n = 0) : ∀ i, i < n → L.getD i false = true := by
  intro i hi
  unfold openN at h
  have := List.countP_eq_zero.1 h i (List.mem_range.2 hi)
  simpa using this

/-- The registers when these are listed. -/
def stG (ops : Array Oper) (s0 : S) (vs : List AV) (L : Array Bool) (r : Nat) : AV := match dix ops r with
  | some j => bif L.getD j false then vs.getD j .dead else s0.get r
  | none => s0.get r

structure LexInv (w0 : World) (T0 : Bs) (H : List (AV × Value)) (ops : Array Oper) (es : List Nat) (s0 : S) (vs : List AV) (hs : List HpS) (L : Array Bool) (k : Nat) (env : List (Nat × AV)) (a : Act) (w : World) : Prop where
  size : L.size = ops.size
  closed : ∀ (i : Nat) (o : Oper), ops[i]? = some o → L.getD i false = true → ∀ e, e ∈ o.after → Region.binds .any e = true → L.getD e.on false = true
  kle : k ≤ es.length
  es : ∀ (q i : Nat), es[q]? = some i → (L.getD i false = true ↔ q < k)
  get : ∀ r, S.get ⟨s0.n, env, [], 0⟩ r = stG ops s0 vs L r
  rep : ∃ h, hs[k]? = some h ∧ Rep w0 T0 H ⟨s0.n, env, h.1, h.2⟩ a w

theorem anc_listed (hok : LexOk ops es tb T) {L : Array Bool} (hsz : L.size = ops.size) (hc : ∀ (i : Nat) (o : Oper), ops[i]? = some o → L.getD i false = true → ∀ e, e ∈ o.after → Region.binds .any e = true → L.getD e.on false = true) :
    ∀ (i : Nat) (o : Oper), ops[i]? = some o → (∀ e, e ∈ o.after → Region.binds .any e = true → L.getD e.on false = true) → ∀ q, q < ops.size → bitT T i q = true → L.getD q false = true := by
  intro i
  induction i using Nat.strongRecOn with
  | _ i ih =>
    intro o hi hd q hq hb
    obtain ⟨e, he, hbd, hx⟩ := hok.anc i o hi q hq hb
    rcases hx with rfl | hx
    · exact hd e he hbd
    · have hlt := hok.low i o hi e he hbd
      have hL := hd e he hbd
      cases hoe : ops[e.on]? with
      | none =>
        have := Array.getElem?_eq_none_iff.1 hoe
        have hi' := (Array.getElem?_eq_some_iff.1 hi).1
        omega
      | some oe => exact ih e.on hlt oe hoe (hc e.on oe hoe hL) q hq hx

theorem lex_all (hok : LexOk ops es tb T) {s0 sf : S} {Q : S → Prop} {vs : List AV} {hs : List HpS} {hs0 : List HpS} (hend : LexEnd P w0 T0 ops es tb s0 hs0 Q vs hs sf) :
    ∀ (fuel : Nat) (L : Array Bool) (k : Nat) (env : List (Nat × AV)) (a : Act) (w : World), openN L ops.size = fuel → LexInv w0 T0 H ops es s0 vs hs L k env a w →
      wpAny P .any ops (fun e a' w' => e = .normal ∧ ∃ s', Q s' ∧ Rep w0 T0 H s' a' w') fuel L a w := by
  have fin : ∀ (L : Array Bool) (k : Nat) (env : List (Nat × AV)) (a : Act) (w : World), (∀ i, i < ops.size → L.getD i false = true) → LexInv w0 T0 H ops es s0 vs hs L k env a w → ∃ s', Q s' ∧ Rep w0 T0 H s' a w := by
    intro L k env a w hall inv
    have hk : k = es.length := by
      rcases Nat.lt_or_ge k es.length with hlt | hge
      · have h1 := inv.es k es[k] (List.getElem?_eq_getElem hlt)
        have h2 := hok.es1 k es[k] (List.getElem?_eq_getElem hlt)
        have := h1.1 (hall _ h2.1)
        omega
      · have := inv.kle; omega
    obtain ⟨h, hh, m, hm⟩ := inv.rep
    have hl := hend.last
    rw [hok.tot, ← hk, hh] at hl
    cases hl
    refine ⟨sf, hend.q, m, ?_⟩
    refine { size := by rw [hend.n]; exact hm.size, nodef := hm.nodef, below := hm.below, held := hm.held, rows := hm.rows, sep := hm.sep, env := ?_ }
    intro r v hv
    have hg : S.get ⟨s0.n, env, [], 0⟩ r = v := by
      rw [inv.get r]
      have h1 := hend.get r
      have h2 : sf.get r = v := by simp [S.get, hv]
      rw [← h2, h1]
      unfold stG lexG
      cases hx : dix ops r with
      | none => rfl
      | some j =>
        obtain ⟨o, ho, _⟩ := dix_some hx
        have hlt := (Array.getElem?_eq_some_iff.1 ho).1
        simp [hall j hlt, hlt]
    simp only [S.get] at hg
    cases hl : lk env r with
    | none => rw [hl] at hg; simp only at hg; subst hg; exact .dead _
    | some v' => rw [hl] at hg; simp only at hg; subst hg; exact hm.env r v' hl
  intro fuel
  induction fuel with
  | zero =>
    intro L k env a w hf inv
    have hall := openN_zero hf
    refine ⟨?_, rfl, fin L k env a w hall inv⟩
    apply List.eq_nil_iff_forall_not_mem.2
    intro j hj
    obtain ⟨h1, o, ho, _⟩ := mem_ready.1 hj
    have hlt := (Array.getElem?_eq_some_iff.1 ho).1
    have h2 := hall j hlt
    rw [getD_lo h1] at h2
    cases h2
  | succ fuel ih =>
    intro L k env a w hf inv
    refine ⟨?_, ?_⟩
    · intro hr
      refine ⟨rfl, fin L k env a w ?_ inv⟩
      intro i
      induction i using Nat.strongRecOn with
      | _ i ihi =>
        intro hi
        cases hL : L.getD i false with
        | true => rfl
        | false =>
          exfalso
          obtain ⟨o, ho⟩ : ∃ o, ops[i]? = some o := ⟨ops[i], Array.getElem?_eq_getElem hi⟩
          have hmem : i ∈ Region.ready .any ops L := mem_ready.2 ⟨getD_hi (by rw [inv.size]; exact hi) hL, o, ho, fun e he hb => ihi e.on (hok.low i o ho e he hb) (Nat.lt_trans (hok.low i o ho e he hb) hi)⟩
          rw [hr] at hmem; cases hmem
    · intro i hi
      obtain ⟨hun, o, ho, hdep⟩ := mem_ready.1 hi
      have hlt := (Array.getElem?_eq_some_iff.1 ho).1
      have hL : L.getD i false = false := getD_lo hun
      have hanc := anc_listed hok inv.size inv.closed i o ho hdep
      -- what the operation looks at
      have hagree : ∀ r, r ∈ o.looksAt ops → S.get ⟨s0.n, env, [], 0⟩ r = lexG ops s0 vs i r := by
        intro r hr
        rw [inv.get r]
        unfold stG lexG
        cases hx : dix ops r with
        | none => rfl
        | some j =>
          obtain ⟨oj, hj, hdj⟩ := dix_some hx
          have hjlt := (Array.getElem?_eq_some_iff.1 hj).1
          rcases hok.look i o r j oj ho hj hdj hr with ⟨hb, hji⟩ | ⟨hb, hij, hb'⟩
          · dsimp only
            rw [hanc j hjlt hb, if_pos hji]; rfl
          · have hLj : L.getD j false = false := by
              cases hLj : L.getD j false with
              | false => rfl
              | true =>
                have := anc_listed hok inv.size inv.closed j oj hj (inv.closed j oj hj hLj) i hlt hb'
                rw [hL] at this; cases this
            dsimp only
            rw [hLj, if_neg (by omega)]; rfl
      -- one more is listed
      have next : ∀ (k' : Nat) (h' : HpS) (val : Value) (w' : World), hs[k']? = some h' → k' ≤ es.length → (∀ (q j : Nat), es[q]? = some j → ((L.setIfInBounds i true).getD j false = true ↔ q < k')) →
          Rep w0 T0 ((vs.getD i .dead, val) :: H) ⟨s0.n, env, h'.1, h'.2⟩ a w' →
          wpAny P .any ops (fun e a' w' => e = .normal ∧ ∃ s', Q s' ∧ Rep w0 T0 H s' a' w') fuel (L.setIfInBounds i true) (a.put o.dst val) w' := by
        intro k' h' val w' hh' hk' hes' ⟨m', hm'⟩
        have hop := openN_set (by rw [inv.size]; exact hlt) hL ops.size
        rw [if_pos hlt] at hop
        have hclosed : ∀ (j : Nat) (oj : Oper), ops[j]? = some oj → (L.setIfInBounds i true).getD j false = true → ∀ e, e ∈ oj.after → Region.binds .any e = true → (L.setIfInBounds i true).getD e.on false = true := by
          intro j oj hj hLj e he hb
          by_cases hij : i = j
          · subst hij
            rw [ho] at hj; cases hj
            exact getD_set_true (hdep e he hb)
          · rw [getD_set_ne false hij] at hLj
            exact getD_set_true (inv.closed j oj hj hLj e he hb)
        have hset : ∀ r, o.dst ≠ some r → stG ops s0 vs (L.setIfInBounds i true) r = stG ops s0 vs L r := by
          intro r hr
          unfold stG
          cases hx : dix ops r with
          | none => rfl
          | some j =>
            dsimp only
            have hne : i ≠ j := by
              rintro rfl
              obtain ⟨oj, hj, hdj⟩ := dix_some hx
              rw [ho] at hj; cases hj
              exact hr hdj
            rw [getD_set_ne false hne]
        cases hd : o.dst with
        | none =>
          refine ih _ k' env _ w' (by omega) { size := by simpa using inv.size, closed := hclosed, kle := hk', es := hes', get := fun r => ?_, rep := ⟨h', hh', m', hm'.unhold⟩ }
          rw [hset r (by rw [hd]; simp)]; exact inv.get r
        | some d =>
          have hdn : d < s0.n := hend.done.put i o d hlt ho hd
          have hput := hm'.unhold.putd (hm'.held _ (.head _)) (d := d) hdn
          refine ih _ k' ((d, vs.getD i .dead) :: env) _ w' (by omega) { size := by simpa using inv.size, closed := hclosed, kle := hk', es := hes', get := fun r => ?_, rep := ⟨h', hh', m', hput⟩ }
          by_cases e : d = r
          · subst e
            have hx := hok.dix ho hd
            have hL1 : (L.setIfInBounds i true).getD i false = true := by
              have : i < L.size := by rw [inv.size]; exact hlt
              simp [this]
            unfold stG
            rw [hx]
            dsimp only
            rw [hL1]
            simp [S.get, lk]
          · rw [hset r (by rw [hd]; simpa using e), ← inv.get r]
            simp [S.get, lk, e]
      obtain ⟨h, hh, hrep⟩ := inv.rep
      unfold wpOp
      rw [ho]
      dsimp only
      have wrap : ∀ {A B : Prop} {b : Bool} {C : Prop}, (if b = true then A else B) → (if b = true then A ∨ C else B) := by
        intro A B b C h
        cases b with
        | true => simpa using Or.inl h
        | false => simpa using h
      apply wrap
      cases he : es.elem i with
      | false =>
        have hes' : ∀ (q j : Nat), es[q]? = some j → ((L.setIfInBounds i true).getD j false = true ↔ q < k) := by
          intro q j hq
          have hne : i ≠ j := by
            rintro rfl
            have : es.elem i = true := by simpa using List.mem_of_getElem? hq
            rw [he] at this; cases this
          rw [getD_set_ne false hne]
          exact inv.es q j hq
        have hqs : QS P w0 T0 ops o s0.n (lexG ops s0 vs i) h h (vs.getD i .dead) := by
          rcases hok.heaps i o ho he k inv.kle with h0 | h0 | ⟨k', e, hk', hke, hb⟩ | ⟨k', e, hk', hke, hb⟩
          · obtain ⟨h2, hh2, hq⟩ := hend.done.quiet i o hlt ho he
            rw [← h0, hh] at hh2; cases hh2
            exact hq
          · exact hend.re i o ho he k h0 h hh
          · have h1 := hanc e (hok.es1 k' e hke).1 hb
            have := (inv.es k' e hke).1 h1
            omega
          · have h1 := (inv.es k' e hke).2 hk'
            cases hoe : ops[e]? with
            | none =>
              have h2 := Array.getElem?_eq_none_iff.1 hoe
              have h3 := (hok.es1 k' e hke).1
              omega
            | some oe =>
              have := anc_listed hok inv.size inv.closed e oe hoe (inv.closed e oe hoe h1) i hlt hb
              rw [hL] at this; cases this
        exact hqs env hagree H a w _ _ hrep fun val w' hr' => next k h val w' hh inv.kle hes' hr'
      | true =>
        obtain ⟨q, hq⟩ := List.mem_iff_getElem?.1 (show i ∈ es by simpa using he)
        obtain ⟨_, hown⟩ := hok.es1 q i hq
        have hge : ¬ q < k := fun hlt' => by
          have := (inv.es q i hq).2 hlt'
          rw [hL] at this; cases this
        have hqk : q = k := by
          cases q with
          | zero => omega
          | succ q =>
            have hqlt : q < es.length := by
              have := (List.getElem?_eq_some_iff.1 hq).1; omega
            have h1 := hok.es2 q es[q] i (List.getElem?_eq_getElem hqlt) hq
            have h2 := hanc es[q] (hok.es1 q _ (List.getElem?_eq_getElem hqlt)).1 h1
            have h3 := (inv.es q _ (List.getElem?_eq_getElem hqlt)).1 h2
            omega
        subst hqk
        obtain ⟨h1, h2, hh1, hh2, hqs⟩ := hend.done.eff i o hlt ho he
        rw [hown, hh] at hh1; cases hh1
        rw [hown] at hh2
        have hqlt : q < es.length := (List.getElem?_eq_some_iff.1 hq).1
        have hes' : ∀ (q' j : Nat), es[q']? = some j → ((L.setIfInBounds i true).getD j false = true ↔ q' < q + 1) := by
          intro q' j hq'
          by_cases e : i = j
          · subst e
            have h3 := (hok.es1 q' i hq').2
            have : i < L.size := by rw [inv.size]; exact hlt
            have h4 : (L.setIfInBounds i true).getD i false = true := by simp [this]
            rw [h4]
            constructor
            · intro _; omega
            · intro _; rfl
          · rw [getD_set_ne false e]
            have h3 := (hok.es1 q' j hq').2
            have hne : q' ≠ q := by
              rintro rfl
              rw [hq] at hq'; cases hq'; exact e rfl
            rw [inv.es q' j hq']
            omega
        exact hqs env hagree H a w _ _ hrep fun val w' hr' => next (q + 1) h2 val w' hh2 hqlt hes' hr'

/-- A drawn region, walked once. 'es': the operations that change the abstract state; 'tb': what is to be shown at more than one heap. -/
theorem VcDraw.lex {id : Nat} {s : S} {Q : S → Prop} (es : List Nat) (tb : List (Nat × List Nat)) (hm : P.follows .mixedOrders = true) (hok : lexOk ops es tb (mkAnc ops) = true)
    (h : vcLex P w0 T0 ops es tb ops.toList 0 [] [(s.rows, s.next)] s Q) : @VcDraw P w0 T0 b0 id ops s ⟨Q⟩ := by
  intro H a w _ hr
  refine wp_region_any hm ?_
  have hr' : Rep w0 T0 H s a { w with drawn := w.drawn + 1 } := by
    obtain ⟨m, hm⟩ := hr
    exact ⟨m, hm.drawn⟩
  have ok := LexOk.of hok
  have hg0 : ∀ r, s.get r = lexG ops s [] 0 r := by
    intro r; unfold lexG; split <;> simp
  obtain ⟨vs, hs, sf, hend⟩ := vcLex_ext ok ops.toList 0 [] [(s.rows, s.next)] s [] Q rfl (Nat.zero_le _) rfl rfl rfl rfl hg0
    ⟨fun j o h => absurd h (by omega), fun j o h => absurd h (by omega), fun j o d h => absurd h (by omega)⟩ (fun j o h => absurd h (by omega)) h
  have hL : ∀ j, (Array.replicate ops.size false).getD j false = false := fun j => getD_rep _ j
  have hop : openN (Array.replicate ops.size false) ops.size = ops.size := by
    unfold openN
    have : (List.range ops.size).countP (fun j => !(Array.replicate ops.size false).getD j false) = (List.range ops.size).length := by
      apply List.countP_eq_length.2
      intro j _
      rw [hL j]; rfl
    rw [this, List.length_range]
  refine lex_all ok hend ops.size (Array.replicate ops.size false) 0 s.env a _ hop ?_
  refine { size := by simp, closed := fun i o _ h => (by rw [hL] at h; cases h), kle := Nat.zero_le _, es := fun q i _ => (by rw [hL]; simp), get := fun r => ?_, rep := ⟨_, hend.pre 0 _ rfl, hr'⟩ }
  unfold stG
  split
  · rw [hL]; rfl
  · rfl
theorem VcDraw.lexCut {id : Nat} {s : S} {Q : S → Prop} (es : List Nat) (tb : List (Nat × List Nat)) (hm : P.follows .mixedOrders = true) (hok : lexOk ops es tb (mkAnc ops) = true) (shape : S)
    (h : vcLex P w0 T0 ops es tb ops.toList 0 [] [(s.rows, s.next)] s (fun s' => Ent w0 T0 b0 s' shape)) (hk : Q shape) : @VcDraw P w0 T0 b0 id ops s ⟨Q⟩ := by
  intro H a w hH hr
  refine wp_mono (VcDraw.lex (b0 := b0) (id := id) es tb hm hok h H a w hH hr) ?_
  rintro e a' w' ⟨he, s', hq, hr'⟩
  exact ⟨he, shape, hk, hq H a' w' hH hr'⟩
end
end Go.Fv

/-
  Calls whose results are only read by the caller: they stand as data, and the caller's state stays as it is.
-/
namespace Go.Fv
set_option linter.unusedSectionVars false
open Go.RowKit
set_option linter.unusedVariables false
set_option linter.unusedSimpArgs false
set_option linter.unnecessarySimpa false

def outOk (rows : List (Nat × Item)) (x y : AV) : Prop := match x with
  | .tup l => ∃ l', argOkL rows l l' ∧ y = .tup l'
  | x => argOk rows x y

section
variable {P : Program} {w0 : World} {T0 : Bs}

theorem OutOk.ro {T : Nat → Prop} {B : Nat} {w : World} {out out' : AV} {rows : List (Nat × Item)} {v : Value} (h : OutOk T B w out rows v) (ho : outOk rows out out') : OutOk T B w out' [] v := by
  obtain ⟨m, N, hr, hrows, hsep⟩ := h
  have hblk : ∀ i it, lk rows i = some it → ∀ b, blk (m i) = some b → B ≤ b := fun i it hi b hb => ((hrows i it hi).2.blk b hb).1
  have hl : Lend w (⟨w, allow (bs T) B m rows, m, N⟩ : Ctx) rows (allow (bs T) B (fun _ => undef) []) :=
    { hw := rfl, t := fun b hb => ⟨hb.1, fun i it hi => by simp [lk] at hi⟩,
      own := fun i e r hi => by
        obtain ⟨n, cells, hc, hn, hq, _⟩ := (hrows i _ hi).2
        exact ⟨fun b hb => ⟨.inl (hblk i _ hi b hb), fun i it hi => by simp [lk] at hi⟩, n, cells, hc, hn, hq⟩,
      box := fun i e cs hi => by
        obtain ⟨g, vs, hv, hg, hl, hh⟩ := (hrows i _ hi).2
        exact ⟨g, vs, hv, ⟨.inl hg, fun i it hi => by simp [lk] at hi⟩, hl, hh⟩,
      map := fun i ks vs hi => by
        obtain ⟨g, es, clock, hv, hg, h1, h2, h3, h4, hh⟩ := (hrows i _ hi).2
        exact ⟨g, es, clock, hv, ⟨.inl hg, fun i it hi => by simp [lk] at hi⟩, h1, h2, h3, h4, hh⟩ }
  refine ⟨fun _ => undef, 0, ?_, fun i it hi => by simp [lk] at hi, fun i j it jt b hi => by simp [lk] at hi⟩
  unfold outOk at ho
  split at ho
  · obtain ⟨l', ha, rfl⟩ := ho
    cases hr with
    | tup _ vs hv => exact .tup _ _ (argOkT_rv hl _ ha hv)
  · exact argOkN_rv hl 6 _ ho hr

theorem OutOk.noid {T : Nat → Prop} {B : Nat} {w : World} {out : AV} {v : Value} (h : OutOk T B w out [] v) : OutOk T B w out [] v := h

/-- A CALL BY A CONTRACT whose results share nothing, and are only read. -/
theorem VcCall.ro [hG : GlB P w0 T0] {f : Nat} {args args' : List AV} {out : AV} (out' : AV) {rows : List (Nat × Item)} {s : S} {K : AV → S → Prop} (h : FnFr P f args' out rows) (ha : argOkL s.rows args args') (ho : outOk rows out out') (hn : noId out' = true)
    (hk : K out' s) : @VcCall P w0 T0 f args s ⟨K⟩ := by
  have h' : FnFr P f args' out' [] := ⟨h.1, fun w T vals hgl hv => (h.2 w T vals hgl hv).mono fun e w' ⟨v, he, hb, hq⟩ => ⟨v, he, hb, hq.ro ho⟩⟩
  refine VcCall.fr h' ha 0 (noId_below 0 _ hn) trivial ?_
  rw [noId_ren _ _ hn]
  exact hk

theorem FnOk.ro {f : Nat} {args : List AV} {out out' : AV} {rows : List (Nat × Item)} (h : FnOk P f args out rows) (ho : outOk rows out out') : FnOk P f args out' [] :=
  ⟨h.1, fun w T vals hgl hv => (h.2 w T vals hgl hv).mono fun e w' ⟨v, he, hb, hq⟩ => ⟨v, he, hb, hq.ro ho⟩⟩
/-- A CALL BY A CONTRACT whose results may share memory with the arguments, none of which is owned; the results are only read. -/
theorem VcCall.ros [hG : GlB P w0 T0] {f : Nat} {args args' : List AV} {out : AV} (out' : AV) {rows : List (Nat × Item)} {s : S} {K : AV → S → Prop} (h : FnOk P f args' out rows) (ha : argOkL [] args args') (ho : outOk rows out out') (hn : noId out' = true)
    (hk : K out' s) : @VcCall P w0 T0 f args s ⟨K⟩ := by
  refine VcCall.sh s.rows (h.ro ho) [] ha (fun _ _ h => h) (fun i it hi => by simp [lk] at hi) 0 (noId_below 0 _ hn) trivial ?_
  rw [noId_ren _ _ hn]
  exact hk
/-- The same, and its new rows are the caller's own. -/
theorem VcCall.shr [hG : GlB P w0 T0] {f : Nat} {args args' : List AV} {out : AV} {rows : List (Nat × Item)} {s : S} {K : AV → S → Prop} (h : FnOk P f args' out rows) (ha : argOkL [] args args') (N : Nat) (hN : Fv.below N out = true) (hNr : rowsB N rows)
    (hk : K (ren (fun j => s.next + j) out) (s.after s.rows N rows)) : @VcCall P w0 T0 f args s ⟨K⟩ :=
  VcCall.sh s.rows h [] ha (fun _ _ h => h) (fun i it hi => by simp [lk] at hi) N hN hNr hk
end
end Go.Fv

/-
  A nil slice in a box, as an owned row without elements.
-/
namespace Go.Fv
set_option linter.unusedSectionVars false
open Go.RowKit
set_option linter.unusedVariables false
set_option linter.unusedSimpArgs false
set_option linter.unnecessarySimpa false

section
variable {P : Program} {w0 : World} {T0 : Bs} {b0 : Nat}

theorem RvL.setNil {c : Ctx} {x : AV} (hx : Rv c x (.slice none 0 0)) : ∀ {cs : List AV} {vs : List Value} {j : Nat}, RvL c cs vs → cs[j]? = some .nilS → RvL c (cs.set j x) vs
  | _, _, j, .nil, h => by simp at h
  | _, _, 0, .cons y v l vs hy h1 ht, h => by
    simp at h; subst h
    cases hy
    exact .cons _ _ _ _ hx h1 ht
  | _, _, j + 1, .cons y v l vs hy h1 ht, h => by
    simp at h
    exact .cons _ _ _ _ hy h1 (ht.setNil hx h)

/-- A nil slice in a box is an owned row without elements. -/
theorem Ent.nilBox {s : S} (i : Nat) {t : TypeId} {cs : List AV} (j : Nat) (e : TypeId) {z : Value} (hz : ElemZ P e z) (hi : lk s.rows i = some (.box t cs)) (hj : cs[j]? = some .nilS) :
    Ent w0 T0 b0 s { s with rows := put ((s.next, .row e (zrow z 0)) :: s.rows) i (.box t (cs.set j (.own s.next))), next := s.next + 1 } := by
  rintro H a w hH ⟨m, hm⟩
  have hlt := (hm.rows i _ hi).1
  have h1 := new_nil hm hz
  have hi' : lk (s.add (.row e (zrow z 0))).rows i = some (.box t cs) := by
    simp only [S.add, lk]
    rw [if_neg (by omega)]; exact hi
  have h0 := (h1.rows i _ hi').2
  have h2 := h1.upd h1.below hi' (fun _ _ _ => rfl) (.box t (cs.set j (.own s.next))) (fun c hle hw hmm hN => ?_)
  · exact ⟨_, h2.unhold⟩
  · obtain ⟨g, vs, hv, hg, hl, hh⟩ := h0
    refine ⟨g, vs, hv, hg, ?_, by rw [hw]; exact hh⟩
    exact (hl.mono hle).setNil ((h1.held _ (.head _)).mono hle) hj
end
end Go.Fv

/-
  What a function value has captured, where nothing of it is the caller's own memory.
-/
namespace Go.Fv
set_option linter.unusedSectionVars false
open Go.RowKit
set_option linter.unusedVariables false

def lendB : Nat → AV → Bool
  | 0, _ => false
  | n + 1, x => match x with
    | .agg cs => cs.all (lendB n)
    | .fn _ cs => cs.all (lendB n)
    | .ro _ => true
    | .bool _ => true
    | .int _ _ => true
    | .str _ => true
    | .raw _ => true
    | .cell _ => true
    | .nilS => true
    | .mp _ _ => true
    | _ => false

theorem noIdL_all : ∀ {l : List AV}, (∀ x, x ∈ l → noId x = true) → noIdL l = true
  | [], _ => rfl
  | x :: l, h => by simp only [noIdL, Bool.and_eq_true]; exact ⟨h x (.head _), noIdL_all fun y hy => h y (.tail _ hy)⟩
theorem lendB_noId : ∀ (n : Nat) (x : AV), lendB n x = true → noId x = true
  | 0, x, h => by simp [lendB] at h
  | n + 1, x, h => by
    cases x <;> simp only [lendB] at h <;> first | rfl | (cases h; done) | skip
    · simp only [noId]; exact noIdL_all fun y hy => lendB_noId n y (List.all_eq_true.1 h y hy)
    · simp only [noId]; exact noIdL_all fun y hy => lendB_noId n y (List.all_eq_true.1 h y hy)
theorem allOk_same {R : AV → AV → Prop} : ∀ {l : List AV}, (∀ x, x ∈ l → R x x) → allOk R l l
  | [], _ => rfl
  | x :: l, h => ⟨x, l, h x (.head _), allOk_same fun y hy => h y (.tail _ hy), rfl⟩
theorem lendB_ok (rows : List (Nat × Item)) : ∀ (n : Nat) (x : AV), lendB n x = true → argOkN rows n x x
  | 0, x, h => by simp [lendB] at h
  | n + 1, x, h => by
    cases x <;> simp only [lendB] at h <;> first | (cases h; done) | skip
    all_goals first | (simp only [argOkN]; done) | (simp only [argOkN]; exact .inl trivial) | (simp only [argOkN]; exact ⟨_, allOk_same fun y hy => lendB_ok rows n y (List.all_eq_true.1 h y hy), rfl⟩) | skip

class CapsOk (caps : List AV) : Prop where
  ok : caps.all (lendB 5) = true
section
variable {caps : List AV} [h : CapsOk caps]
theorem caps_noId : noIdL caps = true := noIdL_all fun x hx => lendB_noId 5 x (List.all_eq_true.1 h.ok x hx)
theorem lendB_up : ∀ (n : Nat) (x : AV), lendB n x = true → lendB (n + 1) x = true
  | 0, x, h => by simp [lendB] at h
  | n + 1, x, h => by
    cases x <;> simp only [lendB] at h ⊢ <;> first | (cases h; done) | rfl | skip
    · exact List.all_eq_true.2 fun y hy => lendB_up n y (List.all_eq_true.1 h y hy)
    · exact List.all_eq_true.2 fun y hy => lendB_up n y (List.all_eq_true.1 h y hy)
theorem renL_caps (p : Nat → Nat) : renL p caps = caps := noIdL_ren p caps caps_noId
theorem belowL_caps (n : Nat) : belowL n caps = true := noIdL_below n caps caps_noId
theorem allOk_caps (rows : List (Nat × Item)) : allOk (argOkN rows 6) caps caps := allOk_same fun x hx => lendB_ok rows 6 x (lendB_up 5 x (List.all_eq_true.1 h.ok x hx))
theorem allOk_caps5 (rows : List (Nat × Item)) : allOk (argOkN rows 5) caps caps := allOk_same fun x hx => lendB_ok rows 5 x (List.all_eq_true.1 h.ok x hx)
end
mutual
theorem mkV_noId : ∀ (x y : AV), noId x = true → mkV x y = []
  | .own _, _, h => by simp [noId] at h
  | .ptr _ _, _, h => by simp [noId] at h
  | .elt _ _ _ _, _, h => by simp [noId] at h
  | .agg l, y, h => by simp only [mkV]; split <;> first | exact mkL_noId l _ (by simpa [noId] using h) | rfl
  | .tup l, y, h => by simp only [mkV]; split <;> first | exact mkL_noId l _ (by simpa [noId] using h) | rfl
  | .fn _ l, y, h => by simp only [mkV]; split <;> first | exact mkL_noId l _ (by simpa [noId] using h) | rfl
  | .dead, _, _ => rfl
  | .nilS, _, _ => rfl
  | .bool _, _, _ => rfl
  | .int _ _, _, _ => rfl
  | .str _, _, _ => rfl
  | .ro _, _, _ => rfl
  | .cell _, _, _ => rfl
  | .raw _, _, _ => rfl
  | .mp _ _, _, _ => rfl
  | .opt _ x, y, h => by simp only [mkV]; split <;> first | exact mkV_noId x _ (by simpa [noId] using h) | rfl
theorem mkL_noId : ∀ (x y : List AV), noIdL x = true → mkL x y = []
  | [], _, _ => rfl
  | x :: l, y, h => by
    simp only [noIdL, Bool.and_eq_true] at h
    simp only [mkL]; split
    · rw [mkV_noId x _ h.1, mkL_noId l _ h.2]; rfl
    · rfl
end
theorem mkLL_noId : ∀ (x y : List (List AV)), x.all noIdL = true → mkLL x y = []
  | [], _, _ => rfl
  | x :: l, y, h => by
    simp only [List.all_cons, Bool.and_eq_true] at h
    simp only [mkLL]; split
    · rw [mkL_noId x _ h.1, mkLL_noId l _ h.2]; rfl
    · rfl
theorem mkR_ok (r r' : RowV) [h : RowNoId r] : mkR r r' = [] := by
  have := h.ok
  cases r <;> cases r' <;> first | rfl | exact mkLL_noId _ _ this
theorem mkL_caps {caps : List AV} [h : CapsOk caps] (y : List AV) : mkL caps y = [] := mkL_noId caps y caps_noId
end Go.Fv

/-
  The walk of drawn regions, in the set.
-/
namespace Go.Fv
set_option linter.unusedSectionVars false
attribute [go_sem] vcConvX appTy vcLookup lookK vcMakeMap vcMapUpd vcMapEnt entK vcEntStore vcRange vcNext vcEntry List.getLast?_concat mapOf gLook KeysT_nil gMM Bool.false_eq_true true_implies LetW_q vcLex gGo_some bGo_true bGo_false eGo_mk qGo_val qGo_lin qGo_call lxPut lxEnv dstOk putS qCond qRes rOps peelV onlyE onlyP gd qVc redo1 redo accPut ksOf peelC esMem isLin Option.toList_some Option.toList_none renL_caps belowL_caps
end Go.Fv

/-
  Maps whose keys and values are told by lists of plain data.
-/
namespace Go.Fv
set_option linter.unusedSectionVars false
set_option linter.unusedVariables false
/-- Where a key stands in a list of keys. -/
def ixOf {α : Type} [DecidableEq α] : List α → α → Option Nat
  | [], _ => none
  | x :: l, k => if x = k then some 0 else (ixOf l k).map (· + 1)
theorem keyIdx_map {α : Type} [DecidableEq α] {f : α → AV} (hf : ∀ a b, eqKey (f a) (f b) = decide (a = b)) (x : α) : ∀ l : List α, keyIdx (l.map f) (f x) = ixOf l x
  | [] => rfl
  | y :: l => by simp only [List.map_cons, keyIdx, ixOf, hf, keyIdx_map hf x l, decide_eq_true_eq]
theorem keyIdx_ints (l : List Int) (q : IntKind) (n : Int) : keyIdx (l.map (.int q)) (.int q n) = ixOf l n := keyIdx_map (fun a b => by simp [eqKey]) n l
theorem ixOf_some {α : Type} [DecidableEq α] : ∀ {l : List α} {x : α} {j : Nat}, ixOf l x = some j → l[j]? = some x
  | y :: l, x, j, h => by
    simp only [ixOf] at h
    split at h
    · rename_i e; cases h; simp [e]
    · simp only [Option.map_eq_some_iff] at h
      obtain ⟨i, hi, rfl⟩ := h
      simpa using ixOf_some hi
theorem ixOf_none {α : Type} [DecidableEq α] : ∀ {l : List α} {x : α}, ixOf l x = none ↔ x ∉ l
  | [], x => by simp [ixOf]
  | y :: l, x => by
    simp only [ixOf]
    split
    · rename_i e; simp [e]
    · rename_i e
      rw [Option.map_eq_none_iff, ixOf_none, List.mem_cons, not_or]
      exact ⟨fun h => ⟨fun e' => e e'.symm, h⟩, fun h => h.2⟩
/-- What is laid into a set. -/
def insE {α : Type} [DecidableEq α] (l : List α) (x : α) : List α := if x ∈ l then l else l ++ [x]
theorem mem_insE {α : Type} [DecidableEq α] {l : List α} {x y : α} : y ∈ insE l x ↔ y ∈ l ∨ y = x := by
  unfold insE
  split
  · rename_i h
    constructor
    · exact .inl
    · rintro (h' | rfl)
      · exact h'
      · exact h
  · simp
theorem updKs_set {α : Type} [DecidableEq α] {f : α → AV} (hf : ∀ a b, eqKey (f a) (f b) = decide (a = b)) (l : List α) (x : α) : updKs (l.map f) (f x) = (insE l x).map f := by
  unfold updKs insE
  rw [keyIdx_map hf]
  cases h : ixOf l x with
  | none => simp [ixOf_none.1 h]
  | some j => simp [List.mem_of_getElem? (ixOf_some h)]
theorem updKs_ints (l : List Int) (q : IntKind) (n : Int) : updKs (l.map (.int q)) (.int q n) = (insE l n).map (.int q) := updKs_set (fun a b => by simp [eqKey]) l n
theorem renL_kmap {α : Type} (p : Nat → Nat) {f : α → AV} (hf : ∀ a, noId (f a) = true) (l : List α) : renL p (l.map f) = l.map f := by
  refine noIdL_ren p _ ?_
  induction l with
  | nil => rfl
  | cons x l ih => simp [noIdL, hf, ih]
theorem belowL_kmap {α : Type} (n : Nat) {f : α → AV} (hf : ∀ a, noId (f a) = true) (l : List α) : belowL n (l.map f) = true := by
  refine noIdL_below n _ ?_
  induction l with
  | nil => rfl
  | cons x l ih => simp [noIdL, hf, ih]
theorem noIdL_kmap {α : Type} {f : α → AV} (hf : ∀ a, noId (f a) = true) (l : List α) : noIdL (l.map f) = true := by
  induction l with
  | nil => rfl
  | cons x l ih => simp [noIdL, hf, ih]
theorem mkL_kmap {α : Type} {f : α → AV} (hf : ∀ a, noId (f a) = true) (l : List α) (y : List AV) : mkL (l.map f) y = [] := mkL_noId _ y (noIdL_kmap hf l)
attribute [go_sem] updKs_ints keyIdx_ints
end Go.Fv

/-
  Small facts about lists.
-/
namespace Go.Fv
set_option linter.unusedSectionVars false
theorem getD_lt {α : Type} {l : List α} {i : Nat} {d : α} (h : i < l.length) : l.getD i d = l[i] := by simp [List.getD, h]
theorem renL_bools (p : Nat → Nat) : ∀ l : List Bool, renL p (l.map .bool) = l.map .bool
  | [] => rfl
  | b :: l => by simp only [List.map_cons, renL, ren]; rw [renL_bools p l]
theorem belowL_bools (n : Nat) : ∀ l : List Bool, belowL n (l.map .bool) = true
  | [] => rfl
  | b :: l => by simp only [List.map_cons, belowL, below, Bool.true_and]; exact belowL_bools n l
theorem mkL_bools : ∀ (l : List Bool) (y : List AV), mkL (l.map .bool) y = []
  | [], _ => by simp [mkL]
  | b :: l, y => by
    simp only [List.map_cons, mkL]
    split
    · simp only [mkV, List.nil_append]; exact mkL_bools l _
    · rfl
theorem allOk_bools (rows : List (Nat × Item)) (n : Nat) : ∀ l : List Bool, allOk (argOkN rows (n + 1)) (l.map .bool) (l.map .bool)
  | [] => rfl
  | b :: l => ⟨.bool b, l.map .bool, by simp [argOkN], allOk_bools rows n l, rfl⟩
theorem set_bools (l : List Bool) (i : Nat) (b : Bool) : (l.map AV.bool).set i (.bool b) = (l.set i b).map .bool := by rw [List.map_set]
theorem noRoL_bools : ∀ l : List Bool, noRoL (l.map .bool) = true
  | [] => rfl
  | b :: l => by simp only [List.map_cons, noRoL, noRo, Bool.true_and]; exact noRoL_bools l
theorem spl_eq : ∀ (cs bs : List AV) (off : Nat), off + cs.length ≤ bs.length → spl bs off cs = bs.take off ++ cs ++ bs.drop (off + cs.length)
  | [], bs, off, _ => by simp [spl]
  | c :: cs, bs, off, h => by
    simp only [List.length_cons] at h
    rw [spl, spl_eq cs _ _ (by simp; omega), List.take_set, List.drop_set, if_pos (by omega)]
    rw [List.take_succ_eq_append_getElem (by omega), List.set_append_right _ _ (by simp; omega)]
    have e : off - (List.take off bs).length = 0 := by simp; omega
    rw [e]
    simp only [List.set_cons_zero, List.length_cons, List.append_assoc, List.cons_append, List.nil_append]
    have e2 : off + 1 + cs.length = off + (cs.length + 1) := by omega
    rw [e2]
theorem spl_all {bs cs : List AV} (h : cs.length = bs.length) : spl bs 0 cs = cs := by
  rw [spl_eq _ _ _ (by omega)]; simp [h]
attribute [simp] noIdR_ok renR_ok belowR_ok mkR_ok
attribute [go_sem] frzS noIdR_ok renR_ok belowR_ok renL_bools belowL_bools List.length_map Nat.mul_one set_bools
theorem up_add (a b : Nat) : (a : Int) + (b : Int) = ((a + b : Nat) : Int) := rfl
theorem up_one (a : Nat) : (a : Int) + 1 = ((a + 1 : Nat) : Int) := rfl
theorem up_mul (a b : Nat) : (a : Int) * (b : Int) = ((a * b : Nat) : Int) := (Int.natCast_mul a b).symm
theorem up_tmod (a b : Nat) : (a : Int).tmod (b : Int) = ((a % b : Nat) : Int) := (Int.ofNat_tmod a b).symm
theorem up_tdiv (a b : Nat) : (a : Int).tdiv (b : Int) = ((a / b : Nat) : Int) := (Int.ofNat_tdiv a b).symm
end Go.Fv

/-! Regions whose order is drawn, where operations that change the state may change places: a tree of these; the others are walked once, and shown again where the heap changes. -/
namespace Go.Fv
set_option linter.unusedSectionVars false
open Go.RowKit
set_option linter.unusedVariables false
set_option linter.unusedSimpArgs false
set_option linter.unnecessarySimpa false

inductive LTree where
  | done
  | none
  | quiet (i : Nat) (t : LTree)
  | eff (i : Nat) (ks : List Nat) (t r : LTree)

def accKeep (ks : List Nat) : List (Nat × Acc) → List (Nat × Acc)
  | [] => []
  | x :: l => bif esMem ks x.1 then x :: accKeep ks l else accKeep ks l
def redoH (P : Program) (w0 : World) (T0 : Bs) (n : Nat) (o : Oper) (g : Option Bool) (env : List (Nat × AV)) (v : AV) (R : List (Nat × Item)) (N : Nat) : Prop := match g with
  | .none => qVc P w0 T0 o ⟨n, env, R, N⟩ v
  | .some c => Fv.below N v = true ∧ (c = true → qVc P w0 T0 o ⟨n, env, R, N⟩ v)
def redoT (P : Program) (w0 : World) (T0 : Bs) (n : Nat) (R : List (Nat × Item)) (N : Nat) : List (Nat × Acc) → Prop
  | [] => True
  | (_, ⟨o, g, env, v, _⟩) :: l => redoH P w0 T0 n o g env v R N ∧ redoT P w0 T0 n R N l

def vcFork (P : Program) (w0 : World) (T0 : Bs) (ops : Array Oper) : LTree → List (Nat × Acc) → S → (S → Prop) → Prop
  | .done, _, s, Q => Q s
  | .none, _, _, _ => True
  | .quiet i t, acc, s, Q => match ops[i]? with
    | .none => False
    | .some o => @gGo (gd ops s o) ⟨fun g => @qGo (qRes P w0 T0 o g s) ⟨
        fun v re => Chk (dstOk o.dst s.n) (vcFork P w0 T0 ops t (bif re then (i, ⟨o, g, lxEnv g s (rOps o.op), v, []⟩) :: acc else acc) (putS o.dst (lxPut g v) s) Q),
        vcOp P w0 T0 o ⟨s.n, onlyE s (rOps o.op), s.rows, s.next⟩ (fun v t' => @eGo v t' ⟨fun v R N => Chk (R = s.rows ∧ N = s.next) (Chk (dstOk o.dst s.n) (vcFork P w0 T0 ops t ((i, ⟨o, g, lxEnv g s (rOps o.op), v, []⟩) :: acc) (putS o.dst v s) Q))⟩),
        @QV ⟨fun v => qCond P w0 T0 o g s v,
          fun v => Chk (dstOk o.dst s.n) (vcFork P w0 T0 ops t ((i, ⟨o, g, lxEnv g s (rOps o.op), v, []⟩) :: acc) (putS o.dst (lxPut g v) s) Q)⟩⟩⟩
  | .eff i ks t r, acc, s, Q => (match ops[i]? with
    | .none => False
    | .some o => @gGo (gd ops s o) ⟨fun g => match g with
      | .none => @bGo (isLin o.op) ⟨
          vcOp P w0 T0 o ⟨s.n, onlyE s (rOps o.op), s.rows, s.next⟩ (fun v t' => @eGo v t' ⟨fun v R N => redoT P w0 T0 s.n R N (accKeep ks acc) ∧ Chk (dstOk o.dst s.n) (vcFork P w0 T0 ops t (accKeep ks acc) (putS o.dst v ⟨s.n, s.env, R, N⟩) Q)⟩),
          @QE ⟨fun v R N => vcOp P w0 T0 o ⟨s.n, onlyE s (rOps o.op), s.rows, s.next⟩ (fun r t => r = v ∧ t.rows = R ∧ t.next = N),
            fun v R N => redoT P w0 T0 s.n R N (accKeep ks acc) ∧ Chk (dstOk o.dst s.n) (vcFork P w0 T0 ops t (accKeep ks acc) (putS o.dst v ⟨s.n, s.env, R, N⟩) Q)⟩⟩
      | .some c => @Ite c ⟨@QE ⟨fun v R N => peelC s (rOps o.op) = true ∧ vcOp P w0 T0 o ⟨s.n, onlyP s (rOps o.op), s.rows, s.next⟩ (fun r t => r = v ∧ t.rows = R ∧ t.next = N),
            fun v R N => redoT P w0 T0 s.n R N (accKeep ks acc) ∧ Chk (dstOk o.dst s.n) (vcFork P w0 T0 ops t (accKeep ks acc) (putS o.dst (.opt true v) ⟨s.n, s.env, R, N⟩) Q)⟩⟩
          ⟨redoT P w0 T0 s.n s.rows s.next (accKeep ks acc) ∧ Chk (dstOk o.dst s.n) (vcFork P w0 T0 ops t (accKeep ks acc) (putS o.dst (.opt false (.bool false)) s) Q)⟩⟩) ∧ vcFork P w0 T0 ops r acc s Q

/-! ### Which trees are right -/
def depsB (ops : Array Oper) (V : Array Bool) (i : Nat) : Bool := match ops[i]? with
  | .some o => o.after.all fun e => !Region.binds .any e || V.getD e.on false
  | .none => false
def altIds : LTree → List Nat
  | .eff i _ _ r => i :: altIds r
  | _ => []
def forkOk (ops : Array Oper) (T : List Nat) : LTree → Bool → Array Bool → List Nat → Bool
  | .done, b, V, _ => b && (List.range ops.size).all fun j => V.getD j false
  | .none, b, _, _ => !b
  | .quiet i t, b, V, Pd => b && decide (i < ops.size) && !V.getD i false && depsB ops V i && forkOk ops T t true (V.setIfInBounds i true) (i :: Pd)
  | .eff i ks t r, b, V, Pd => (!b || (List.range ops.size).all fun j => V.getD j false || !depsB ops V j || (i :: altIds r).contains j) && decide (i < ops.size) && !V.getD i false && depsB ops V i && Pd.all (fun j => bitT T i j || esMem ks j) && ks.all (fun j => Pd.contains j) && forkOk ops T t true (V.setIfInBounds i true) ks && forkOk ops T r false V Pd

section
variable {P : Program} {w0 : World} {T0 : Bs} {b0 : Nat} {ops : Array Oper} {T : List Nat} {H : List (AV × Value)} [hG : GlB P w0 T0]

def Cl (ops : Array Oper) (V : Array Bool) : Prop := ∀ (i : Nat) (o : Oper), ops[i]? = some o → V.getD i false = true → ∀ e, e ∈ o.after → Region.binds .any e = true → V.getD e.on false = true
def Dp (V : Array Bool) (o : Oper) : Prop := ∀ e, e ∈ o.after → Region.binds .any e = true → V.getD e.on false = true

theorem depsB_spec {V : Array Bool} {i : Nat} {o : Oper} (ho : ops[i]? = some o) : depsB ops V i = true ↔ Dp V o := by
  unfold depsB Dp
  rw [ho]
  dsimp only
  rw [Array.all_eq_true_iff_forall_mem]
  constructor
  · intro h e he hb
    have := h e he
    simpa [hb] using this
  · intro h e he
    cases hb : Region.binds .any e with
    | false => rfl
    | true => simpa [hb] using h e he hb

theorem agree (hok : LexOk ops [] [] T) {s0 : S} {vs : List AV} {V V' : Array Bool} {i : Nat} {o : Oper} (ho : ops[i]? = some o) (hs : V.size = ops.size) (hs' : V'.size = ops.size) (hc : Cl ops V) (hc' : Cl ops V') (hd : Dp V o) (hd' : Dp V' o) (hi : V.getD i false = false) (hi' : V'.getD i false = false) :
    ∀ r, r ∈ o.looksAt ops → stG ops s0 vs V r = stG ops s0 vs V' r := by
  intro r hr
  have hilt := (Array.getElem?_eq_some_iff.1 ho).1
  unfold stG
  cases hx : dix ops r with
  | none => rfl
  | some j =>
    obtain ⟨oj, hj, hdj⟩ := dix_some hx
    have hjlt := (Array.getElem?_eq_some_iff.1 hj).1
    dsimp only
    rcases hok.look i o r j oj ho hj hdj hr with ⟨hb, _⟩ | ⟨_, _, hb⟩
    · rw [anc_listed hok hs hc i o ho hd j hjlt hb, anc_listed hok hs' hc' i o ho hd' j hjlt hb]
    · have no : ∀ U : Array Bool, U.size = ops.size → Cl ops U → U.getD i false = false → U.getD j false = false := by
        intro U h1 h2 h3
        cases hU : U.getD j false with
        | false => rfl
        | true =>
          have := anc_listed hok h1 h2 j oj hj (h2 j oj hj hU) i hilt hb
          rw [h3] at this; cases this
      rw [no V hs hc hi, no V' hs' hc' hi']

theorem stG_set {s0 : S} {vs : List AV} {V : Array Bool} {i : Nat} {v : AV} (h : V.getD i false = false) (r : Nat) : stG ops s0 (vs.set i v) V r = stG ops s0 vs V r := by
  unfold stG
  split
  · rename_i j _
    by_cases e : i = j
    · subst e; rw [h]; rfl
    · simp [List.getD_eq_getElem?_getD, List.getElem?_set, e]
  · rfl

/-- What is known of the operations that may be late. -/
structure VInv (P : Program) (w0 : World) (T0 : Bs) (ops : Array Oper) (s0 : S) (vs : List AV) (V : Array Bool) (Pd : List Nat) (acc : List (Nat × Acc)) (s : S) : Prop where
  vsize : V.size = ops.size
  vlen : vs.length = ops.size
  cl : Cl ops V
  n : s.n = s0.n
  sget : ∀ r, s.get r = stG ops s0 vs V r
  pd : ∀ j, j ∈ Pd → V.getD j false = true ∧ ∀ o, ops[j]? = some o → ∃ U : Array Bool, U.size = ops.size ∧ Cl ops U ∧ (∀ i, U.getD i false = true → V.getD i false = true) ∧ Dp U o ∧ U.getD j false = false ∧
    QS P w0 T0 ops o s0.n (stG ops s0 vs U) (s.rows, s.next) (s.rows, s.next) (vs.getD j .dead) ∧
    ((∀ h, QS P w0 T0 ops o s0.n (stG ops s0 vs U) h h (vs.getD j .dead)) ∨ ∃ x, (j, x) ∈ acc ∧ ∀ h, redoC P w0 T0 s0.n x h → QS P w0 T0 ops o s0.n (stG ops s0 vs U) h h (vs.getD j .dead))
  put : ∀ j o d, V.getD j false = true → ops[j]? = some o → o.dst = some d → d < s0.n

/-- The machine's own place: some that are walked already are late. -/
structure RInv (w0 : World) (T0 : Bs) (H : List (AV × Value)) (ops : Array Oper) (s0 : S) (vs : List AV) (V : Array Bool) (Pd : List Nat) (s : S) (L : Array Bool) (env : List (Nat × AV)) (a : Act) (w : World) : Prop where
  size : L.size = ops.size
  cl : Cl ops L
  sub : ∀ i, L.getD i false = true → V.getD i false = true
  get : ∀ r, S.get ⟨s0.n, env, [], 0⟩ r = stG ops s0 vs L r
  rep : Rep w0 T0 H ⟨s0.n, env, s.rows, s.next⟩ a w
  pd : ∀ i, V.getD i false = true → L.getD i false = false → i ∈ Pd

theorem getD_lt_size {V : Array Bool} {i : Nat} (h : V.getD i false = true) : i < V.size := by
  rcases Nat.lt_or_ge i V.size with h' | h'
  · exact h'
  · simp [Array.getElem?_eq_none h'] at h

theorem all_listed (hok : LexOk ops [] [] T) {L : Array Bool} (hs : L.size = ops.size) (hr : Region.ready .any ops L = []) : ∀ i, i < ops.size → L.getD i false = true := by
  intro i
  induction i using Nat.strongRecOn with
  | _ i ihi =>
    intro hi
    cases hL : L.getD i false with
    | true => rfl
    | false =>
      exfalso
      obtain ⟨o, ho⟩ : ∃ o, ops[i]? = some o := ⟨ops[i], Array.getElem?_eq_getElem hi⟩
      have hmem : i ∈ Region.ready .any ops L := mem_ready.2 ⟨getD_hi (by rw [hs]; exact hi) hL, o, ho, fun e he hb => ihi e.on (hok.low i o ho e he hb) (Nat.lt_trans (hok.low i o ho e he hb) hi)⟩
      rw [hr] at hmem; cases hmem

theorem Cl.set {V : Array Bool} {i : Nat} {o : Oper} (h : Cl ops V) (ho : ops[i]? = some o) (hd : Dp V o) : Cl ops (V.setIfInBounds i true) := by
  intro j oj hj hLj e he hb
  by_cases hij : i = j
  · subst hij
    rw [ho] at hj; cases hj
    exact getD_set_true (hd e he hb)
  · rw [getD_set_ne false hij] at hLj
    exact getD_set_true (h j oj hj hLj e he hb)

/-- The registers after one operation more. -/
theorem stG_put (hok : LexOk ops [] [] T) {s0 : S} {vs : List AV} {V : Array Bool} {i : Nat} {o : Oper} {g : Nat → AV} (ho : ops[i]? = some o) (hs : V.size = ops.size) (hg : ∀ r, g r = stG ops s0 vs V r) :
    ∀ r, (match o.dst with | some d => if d = r then vs.getD i .dead else g r | none => g r) = stG ops s0 vs (V.setIfInBounds i true) r := by
  intro r
  have hilt := (Array.getElem?_eq_some_iff.1 ho).1
  have hV : (V.setIfInBounds i true).getD i false = true := by
    have : i < V.size := by rw [hs]; exact hilt
    simp [this]
  have old : o.dst ≠ some r → g r = stG ops s0 vs (V.setIfInBounds i true) r := by
    intro hne
    rw [hg r]
    unfold stG
    cases hx : dix ops r with
    | none => rfl
    | some j =>
      dsimp only
      have hij : i ≠ j := by
        rintro rfl
        obtain ⟨oj, hj, hdj⟩ := dix_some hx
        rw [ho] at hj; cases hj
        exact hne hdj
      rw [getD_set_ne false hij]
  cases hd : o.dst with
  | none => exact old (by rw [hd]; simp)
  | some d =>
    dsimp only
    by_cases e : d = r
    · subst e
      rw [if_pos rfl]
      unfold stG
      rw [hok.dix ho hd]
      dsimp only
      rw [hV]; rfl
    · rw [if_neg e]
      exact old (by rw [hd]; simpa using e)

theorem get_cons {n d r : Nat} {v : AV} {env : List (Nat × AV)} {R : List (Nat × Item)} {N : Nat} : S.get ⟨n, (d, v) :: env, R, N⟩ r = if d = r then v else S.get ⟨n, env, R, N⟩ r := by
  by_cases e : d = r
  · subst e; simp [S.get, lk]
  · simp [S.get, lk, e]
/-- One more is listed by the machine: its registers and its heap. -/
theorem RInv.more (hok : LexOk ops [] [] T) {s0 : S} {vs : List AV} {L : Array Bool} {env : List (Nat × AV)} {a : Act} {w' : World} {i : Nat} {o : Oper} {R : List (Nat × Item)} {N : Nat} {val : Value}
    (ho : ops[i]? = some o) (hs : L.size = ops.size) (hg : ∀ r, S.get ⟨s0.n, env, [], 0⟩ r = stG ops s0 vs L r) (hput : ∀ d, o.dst = some d → d < s0.n)
    (hr : Rep w0 T0 ((vs.getD i .dead, val) :: H) ⟨s0.n, env, R, N⟩ a w') :
    ∃ env', (∀ r, S.get ⟨s0.n, env', [], 0⟩ r = stG ops s0 vs (L.setIfInBounds i true) r) ∧ Rep w0 T0 H ⟨s0.n, env', R, N⟩ (a.put o.dst val) w' := by
  obtain ⟨m', hm'⟩ := hr
  have hst := stG_put hok (s0 := s0) (vs := vs) ho hs hg
  cases hd : o.dst with
  | none =>
    rw [hd] at hst
    exact ⟨env, hst, m', hm'.unhold⟩
  | some d =>
    rw [hd] at hst
    have h2 := hm'.unhold.putd (hm'.held _ (.head _)) (d := d) (hput d hd)
    exact ⟨(d, vs.getD i .dead) :: env, fun r => by rw [get_cons]; exact hst r, m', h2⟩

theorem stG_get_self {s0 : S} (vs : List AV) (m r : Nat) : stG ops s0 vs (Array.replicate m false) r = s0.get r := by
  unfold stG
  split
  · rw [getD_rep]; rfl
  · rfl

theorem fork_run (hok : LexOk ops [] [] T) {s0 s : S} {vs : List AV} {V : Array Bool} {Pd : List Nat} {acc : List (Nat × Acc)} {Q : S → Prop} (hv : VInv P w0 T0 ops s0 vs V Pd acc s)
    (hfin : (∀ i, i < ops.size → V.getD i false = true) → Q s)
    (hnew : ∀ fuel L env a w, RInv w0 T0 H ops s0 vs V Pd s L env a w → ∀ i o, ops[i]? = some o → Dp L o → V.getD i false = false → openN L ops.size = fuel + 1 → wpOp P ops (fun e a' w' => e = .normal ∧ ∃ s', Q s' ∧ Rep w0 T0 H s' a' w') i (wpAny P .any ops (fun e a' w' => e = .normal ∧ ∃ s', Q s' ∧ Rep w0 T0 H s' a' w') fuel (L.setIfInBounds i true)) a w) :
    ∀ fuel L env a w, openN L ops.size = fuel → RInv w0 T0 H ops s0 vs V Pd s L env a w → wpAny P .any ops (fun e a' w' => e = .normal ∧ ∃ s', Q s' ∧ Rep w0 T0 H s' a' w') fuel L a w := by
  have fin : ∀ (L : Array Bool) (env : List (Nat × AV)) (a : Act) (w : World), (∀ i, i < ops.size → L.getD i false = true) → RInv w0 T0 H ops s0 vs V Pd s L env a w → ∃ s', Q s' ∧ Rep w0 T0 H s' a w := by
    intro L env a w hall inv
    refine ⟨s, hfin fun i hi => inv.sub i (hall i hi), ?_⟩
    obtain ⟨m, hm⟩ := inv.rep
    refine ⟨m, ?_⟩
    refine { size := by rw [hv.n]; exact hm.size, nodef := hm.nodef, below := hm.below, held := hm.held, rows := hm.rows, sep := hm.sep, env := ?_ }
    intro r v hvr
    have hg : S.get ⟨s0.n, env, [], 0⟩ r = v := by
      rw [inv.get r]
      have h2 : s.get r = v := by simp [S.get, hvr]
      rw [← h2, hv.sget r]
      unfold stG
      cases hx : dix ops r with
      | none => rfl
      | some j =>
        obtain ⟨o, ho, _⟩ := dix_some hx
        have hlt := (Array.getElem?_eq_some_iff.1 ho).1
        dsimp only
        rw [hall j hlt, inv.sub j (hall j hlt)]
    simp only [S.get] at hg
    cases hl : lk env r with
    | none => rw [hl] at hg; simp only at hg; subst hg; exact .dead _
    | some v' => rw [hl] at hg; simp only at hg; subst hg; exact hm.env r v' hl
  intro fuel
  induction fuel with
  | zero =>
    intro L env a w hf inv
    have hall := openN_zero hf
    refine ⟨?_, rfl, fin L env a w hall inv⟩
    apply List.eq_nil_iff_forall_not_mem.2
    intro j hj
    obtain ⟨h1, o, ho, _⟩ := mem_ready.1 hj
    have hlt := (Array.getElem?_eq_some_iff.1 ho).1
    have h2 := hall j hlt
    rw [getD_lo h1] at h2
    cases h2
  | succ fuel ih =>
    intro L env a w hf inv
    refine ⟨fun hr => ⟨rfl, fin L env a w (all_listed hok inv.size hr) inv⟩, ?_⟩
    intro i hi
    obtain ⟨hun, o, ho, hdep⟩ := mem_ready.1 hi
    have hlt := (Array.getElem?_eq_some_iff.1 ho).1
    have hL : L.getD i false = false := getD_lo hun
    cases hVi : V.getD i false with
    | false => exact hnew fuel L env a w inv i o ho hdep hVi hf
    | true =>
      obtain ⟨_, h2⟩ := hv.pd i (inv.pd i hVi hL)
      obtain ⟨U, hu1, hu2, hu3, hu4, hu5, hqs, _⟩ := h2 o ho
      unfold wpOp
      rw [ho]
      dsimp only
      have wrap : ∀ {A B : Prop} {b : Bool} {C : Prop}, (if b = true then A else B) → (if b = true then A ∨ C else B) := by
        intro A B b C h
        cases b with
        | true => simpa using Or.inl h
        | false => simpa using h
      apply wrap
      refine hqs env (fun r hr => ?_) H a w _ _ inv.rep fun val w' hr' => ?_
      · rw [inv.get r]
        exact agree hok ho inv.size hu1 inv.cl hu2 hdep hu4 hL hu5 r hr
      · obtain ⟨env', hg', hrep'⟩ := RInv.more hok ho inv.size inv.get (fun d hd => hv.put i o d hVi ho hd) hr'
        have hop := openN_set (by rw [inv.size]; exact hlt) hL ops.size
        rw [if_pos hlt] at hop
        refine ih _ env' _ w' (by omega) ⟨by simpa using inv.size, inv.cl.set ho hdep, fun j hj => ?_, hg', hrep', fun j h1 h2 => ?_⟩
        · by_cases e : i = j
          · subst e; exact hVi
          · rw [getD_set_ne false e] at hj; exact inv.sub j hj
        · by_cases e : i = j
          · subst e
            have : i < L.size := by rw [inv.size]; exact hlt
            simp [this] at h2
          · rw [getD_set_ne false e] at h2; exact inv.pd j h1 h2
end
end Go.Fv
