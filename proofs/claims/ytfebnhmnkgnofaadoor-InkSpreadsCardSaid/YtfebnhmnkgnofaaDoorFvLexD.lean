/-
  A part of the proof of the claim: walks over the program's functions and the plain laws that these need. No condition of its own.
-/
import Derived.Test.YtfebnhmnkgnofaaDoorFvLexC
namespace Go.Fv
open Go.RowKit
set_option linter.unusedVariables false
set_option linter.unusedSimpArgs false
set_option linter.unnecessarySimpa false

section
variable {P : Program} {w0 : World} {T0 : Nat → Prop} {b0 : Nat} {ops : Array Oper} {es : List Nat} {tb : List (Nat × List Nat)} {T : List Nat} {H : List (AV × Value)}

theorem getD_lo {L : Array Bool} {i : Nat} (h : L.getD i true = false) : L.getD i false = false := by
  rcases Nat.lt_or_ge i L.size with h' | h'
  · simpa [h'] using h
  · simp [Array.getElem?_eq_none h']
theorem getD_hi {L : Array Bool} {i : Nat} (hi : i < L.size) (h : L.getD i false = false) : L.getD i true = false := by
  simpa [hi] using h
theorem getD_rep (m j : Nat) : (Array.replicate m false).getD j false = false := by
  rcases Nat.lt_or_ge j m with h | h
  · simp [h]
  · simp [Array.getElem?_eq_none, h]

def openN (L : Array Bool) (n : Nat) : Nat := (List.range n).countP fun j => !L.getD j false
theorem openN_set {L : Array Bool} {i : Nat} (hs : i < L.size) (hi : L.getD i false = false) : ∀ n, openN (L.setIfInBounds i true) n + (if i < n then 1 else 0) = openN L n
  | 0 => by simp [openN]
  | n + 1 => by
    have ih := openN_set hs hi n
    unfold openN at *
    rw [List.range_succ, List.countP_append, List.countP_append, List.countP_singleton, List.countP_singleton]
    by_cases e : i = n
    · subst e
      have h1 : (L.setIfInBounds i true).getD i false = true := by simp [hs]
      rw [h1, hi]
      simp at ih ⊢
      omega
    · rw [getD_set_ne false e]
      by_cases h2 : i < n
      · rw [if_pos h2] at ih; rw [if_pos (show i < n + 1 by omega)]; omega
      · rw [if_neg h2] at ih; rw [if_neg (show ¬ i < n + 1 by omega)]; omega
theorem openN_zero {L : Array Bool} {n : Nat} (h : openN L n = 0) : ∀ i, i < n → L.getD i false = true := by
  intro i hi
  unfold openN at h
  have := List.countP_eq_zero.1 h i (List.mem_range.2 hi)
  simpa using this

/-- The registers when these are listed. -/
def stG (ops : Array Oper) (s0 : S) (vs : List AV) (L : Array Bool) (r : Nat) : AV := match dix ops r with
  | some j => bif L.getD j false then vs.getD j .dead else s0.get r
  | none => s0.get r

structure LexInv (w0 : World) (T0 : Nat → Prop) (H : List (AV × Value)) (ops : Array Oper) (es : List Nat) (s0 : S) (vs : List AV) (hs : List HpS) (L : Array Bool) (k : Nat) (env : List (Nat × AV)) (a : Act) (w : World) : Prop where
  size : L.size = ops.size
  closed : ∀ (i : Nat) (o : Oper), ops[i]? = some o → L.getD i false = true → ∀ e, e ∈ o.after → Region.binds .any e = true → L.getD e.on false = true
  kle : k ≤ es.length
  es : ∀ (q i : Nat), es[q]? = some i → (L.getD i false = true ↔ q < k)
  get : ∀ r, S.get ⟨s0.n, env, [], 0⟩ r = stG ops s0 vs L r
  rep : ∃ h, hs[k]? = some h ∧ Rep w0 T0 H ⟨s0.n, env, h.1, h.2⟩ a w

theorem anc_listed (hok : LexOk ops es tb T) {L : Array Bool} (hsz : L.size = ops.size) (hc : ∀ (i : Nat) (o : Oper), ops[i]? = some o → L.getD i false = true → ∀ e, e ∈ o.after → Region.binds .any e = true → L.getD e.on false = true) :
    ∀ (i : Nat) (o : Oper), ops[i]? = some o → (∀ e, e ∈ o.after → Region.binds .any e = true → L.getD e.on false = true) → ∀ q, q < ops.size → bitT T i q = true → L.getD q false = true := by
  intro i
  induction i using Nat.strongRecOn with
  | _ i ih =>
    intro o hi hd q hq hb
    obtain ⟨e, he, hbd, hx⟩ := hok.anc i o hi q hq hb
    rcases hx with rfl | hx
    · exact hd e he hbd
    · have hlt := hok.low i o hi e he hbd
      have hL := hd e he hbd
      cases hoe : ops[e.on]? with
      | none =>
        have := Array.getElem?_eq_none_iff.1 hoe
        have hi' := (Array.getElem?_eq_some_iff.1 hi).1
        omega
      | some oe => exact ih e.on hlt oe hoe (hc e.on oe hoe hL) q hq hx

theorem lex_all (hok : LexOk ops es tb T) {s0 sf : S} {Q : S → Prop} {vs : List AV} {hs : List HpS} {hs0 : List HpS} (hend : LexEnd P w0 T0 ops es tb s0 hs0 Q vs hs sf) :
    ∀ (fuel : Nat) (L : Array Bool) (k : Nat) (env : List (Nat × AV)) (a : Act) (w : World), openN L ops.size = fuel → LexInv w0 T0 H ops es s0 vs hs L k env a w →
      wpAny P .any ops (fun e a' w' => e = .normal ∧ ∃ s', Q s' ∧ Rep w0 T0 H s' a' w') fuel L a w := by
  have fin : ∀ (L : Array Bool) (k : Nat) (env : List (Nat × AV)) (a : Act) (w : World), (∀ i, i < ops.size → L.getD i false = true) → LexInv w0 T0 H ops es s0 vs hs L k env a w → ∃ s', Q s' ∧ Rep w0 T0 H s' a w := by
    intro L k env a w hall inv
    have hk : k = es.length := by
      rcases Nat.lt_or_ge k es.length with hlt | hge
      · have h1 := inv.es k es[k] (List.getElem?_eq_getElem hlt)
        have h2 := hok.es1 k es[k] (List.getElem?_eq_getElem hlt)
        have := h1.1 (hall _ h2.1)
        omega
      · have := inv.kle; omega
    obtain ⟨h, hh, m, hm⟩ := inv.rep
    have hl := hend.last
    rw [hok.tot, ← hk, hh] at hl
    cases hl
    refine ⟨sf, hend.q, m, ?_⟩
    refine { size := by rw [hend.n]; exact hm.size, nodef := hm.nodef, below := hm.below, held := hm.held, rows := hm.rows, sep := hm.sep, env := ?_ }
    intro r v hv
    have hg : S.get ⟨s0.n, env, [], 0⟩ r = v := by
      rw [inv.get r]
      have h1 := hend.get r
      have h2 : sf.get r = v := by simp [S.get, hv]
      rw [← h2, h1]
      unfold stG lexG
      cases hx : dix ops r with
      | none => rfl
      | some j =>
        obtain ⟨o, ho, _⟩ := dix_some hx
        have hlt := (Array.getElem?_eq_some_iff.1 ho).1
        simp [hall j hlt, hlt]
    simp only [S.get] at hg
    cases hl : lk env r with
    | none => rw [hl] at hg; simp only at hg; subst hg; exact .dead _
    | some v' => rw [hl] at hg; simp only at hg; subst hg; exact hm.env r v' hl
  intro fuel
  induction fuel with
  | zero =>
    intro L k env a w hf inv
    have hall := openN_zero hf
    refine ⟨?_, rfl, fin L k env a w hall inv⟩
    apply List.eq_nil_iff_forall_not_mem.2
    intro j hj
    obtain ⟨h1, o, ho, _⟩ := mem_ready.1 hj
    have hlt := (Array.getElem?_eq_some_iff.1 ho).1
    have h2 := hall j hlt
    rw [getD_lo h1] at h2
    cases h2
  | succ fuel ih =>
    intro L k env a w hf inv
    refine ⟨?_, ?_⟩
    · intro hr
      refine ⟨rfl, fin L k env a w ?_ inv⟩
      intro i
      induction i using Nat.strongRecOn with
      | _ i ihi =>
        intro hi
        cases hL : L.getD i false with
        | true => rfl
        | false =>
          exfalso
          obtain ⟨o, ho⟩ : ∃ o, ops[i]? = some o := ⟨ops[i], Array.getElem?_eq_getElem hi⟩
          have hmem : i ∈ Region.ready .any ops L := mem_ready.2 ⟨getD_hi (by rw [inv.size]; exact hi) hL, o, ho, fun e he hb => ihi e.on (hok.low i o ho e he hb) (Nat.lt_trans (hok.low i o ho e he hb) hi)⟩
          rw [hr] at hmem; cases hmem
    · intro i hi
      obtain ⟨hun, o, ho, hdep⟩ := mem_ready.1 hi
      have hlt := (Array.getElem?_eq_some_iff.1 ho).1
      have hL : L.getD i false = false := getD_lo hun
      have hanc := anc_listed hok inv.size inv.closed i o ho hdep
      -- what the operation looks at
      have hagree : ∀ r, r ∈ o.looksAt ops → S.get ⟨s0.n, env, [], 0⟩ r = lexG ops s0 vs i r := by
        intro r hr
        rw [inv.get r]
        unfold stG lexG
        cases hx : dix ops r with
        | none => rfl
        | some j =>
          obtain ⟨oj, hj, hdj⟩ := dix_some hx
          have hjlt := (Array.getElem?_eq_some_iff.1 hj).1
          rcases hok.look i o r j oj ho hj hdj hr with ⟨hb, hji⟩ | ⟨hb, hij, hb'⟩
          · dsimp only
            rw [hanc j hjlt hb, if_pos hji]; rfl
          · have hLj : L.getD j false = false := by
              cases hLj : L.getD j false with
              | false => rfl
              | true =>
                have := anc_listed hok inv.size inv.closed j oj hj (inv.closed j oj hj hLj) i hlt hb'
                rw [hL] at this; cases this
            dsimp only
            rw [hLj, if_neg (by omega)]; rfl
      -- one more is listed
      have next : ∀ (k' : Nat) (h' : HpS) (val : Value) (w' : World), hs[k']? = some h' → k' ≤ es.length → (∀ (q j : Nat), es[q]? = some j → ((L.setIfInBounds i true).getD j false = true ↔ q < k')) →
          Rep w0 T0 ((vs.getD i .dead, val) :: H) ⟨s0.n, env, h'.1, h'.2⟩ a w' →
          wpAny P .any ops (fun e a' w' => e = .normal ∧ ∃ s', Q s' ∧ Rep w0 T0 H s' a' w') fuel (L.setIfInBounds i true) (a.put o.dst val) w' := by
        intro k' h' val w' hh' hk' hes' ⟨m', hm'⟩
        have hop := openN_set (by rw [inv.size]; exact hlt) hL ops.size
        rw [if_pos hlt] at hop
        have hclosed : ∀ (j : Nat) (oj : Oper), ops[j]? = some oj → (L.setIfInBounds i true).getD j false = true → ∀ e, e ∈ oj.after → Region.binds .any e = true → (L.setIfInBounds i true).getD e.on false = true := by
          intro j oj hj hLj e he hb
          by_cases hij : i = j
          · subst hij
            rw [ho] at hj; cases hj
            exact getD_set_true (hdep e he hb)
          · rw [getD_set_ne false hij] at hLj
            exact getD_set_true (inv.closed j oj hj hLj e he hb)
        have hset : ∀ r, o.dst ≠ some r → stG ops s0 vs (L.setIfInBounds i true) r = stG ops s0 vs L r := by
          intro r hr
          unfold stG
          cases hx : dix ops r with
          | none => rfl
          | some j =>
            dsimp only
            have hne : i ≠ j := by
              rintro rfl
              obtain ⟨oj, hj, hdj⟩ := dix_some hx
              rw [ho] at hj; cases hj
              exact hr hdj
            rw [getD_set_ne false hne]
        cases hd : o.dst with
        | none =>
          refine ih _ k' env _ w' (by omega) { size := by simpa using inv.size, closed := hclosed, kle := hk', es := hes', get := fun r => ?_, rep := ⟨h', hh', m', hm'.unhold⟩ }
          rw [hset r (by rw [hd]; simp)]; exact inv.get r
        | some d =>
          have hdn : d < s0.n := hend.done.put i o d hlt ho hd
          have hput := hm'.unhold.putd (hm'.held _ (.head _)) (d := d) hdn
          refine ih _ k' ((d, vs.getD i .dead) :: env) _ w' (by omega) { size := by simpa using inv.size, closed := hclosed, kle := hk', es := hes', get := fun r => ?_, rep := ⟨h', hh', m', hput⟩ }
          by_cases e : d = r
          · subst e
            have hx := hok.dix ho hd
            have hL1 : (L.setIfInBounds i true).getD i false = true := by
              have : i < L.size := by rw [inv.size]; exact hlt
              simp [this]
            unfold stG
            rw [hx]
            dsimp only
            rw [hL1]
            simp [S.get, lk]
          · rw [hset r (by rw [hd]; simpa using e), ← inv.get r]
            simp [S.get, lk, e]
      obtain ⟨h, hh, hrep⟩ := inv.rep
      unfold wpOp
      rw [ho]
      dsimp only
      have wrap : ∀ {A B : Prop} {b : Bool} {C : Prop}, (if b = true then A else B) → (if b = true then A ∨ C else B) := by
        intro A B b C h
        cases b with
        | true => simpa using Or.inl h
        | false => simpa using h
      apply wrap
      cases he : es.elem i with
      | false =>
        have hes' : ∀ (q j : Nat), es[q]? = some j → ((L.setIfInBounds i true).getD j false = true ↔ q < k) := by
          intro q j hq
          have hne : i ≠ j := by
            rintro rfl
            have : es.elem i = true := by simpa using List.mem_of_getElem? hq
            rw [he] at this; cases this
          rw [getD_set_ne false hne]
          exact inv.es q j hq
        have hqs : QS P w0 T0 ops o s0.n (lexG ops s0 vs i) h h (vs.getD i .dead) := by
          rcases hok.heaps i o ho he k inv.kle with h0 | h0 | ⟨k', e, hk', hke, hb⟩ | ⟨k', e, hk', hke, hb⟩
          · obtain ⟨h2, hh2, hq⟩ := hend.done.quiet i o hlt ho he
            rw [← h0, hh] at hh2; cases hh2
            exact hq
          · exact hend.re i o ho he k h0 h hh
          · have h1 := hanc e (hok.es1 k' e hke).1 hb
            have := (inv.es k' e hke).1 h1
            omega
          · have h1 := (inv.es k' e hke).2 hk'
            cases hoe : ops[e]? with
            | none =>
              have h2 := Array.getElem?_eq_none_iff.1 hoe
              have h3 := (hok.es1 k' e hke).1
              omega
            | some oe =>
              have := anc_listed hok inv.size inv.closed e oe hoe (inv.closed e oe hoe h1) i hlt hb
              rw [hL] at this; cases this
        exact hqs env hagree H a w _ _ hrep fun val w' hr' => next k h val w' hh inv.kle hes' hr'
      | true =>
        obtain ⟨q, hq⟩ := List.mem_iff_getElem?.1 (show i ∈ es by simpa using he)
        obtain ⟨_, hown⟩ := hok.es1 q i hq
        have hge : ¬ q < k := fun hlt' => by
          have := (inv.es q i hq).2 hlt'
          rw [hL] at this; cases this
        have hqk : q = k := by
          cases q with
          | zero => omega
          | succ q =>
            have hqlt : q < es.length := by
              have := (List.getElem?_eq_some_iff.1 hq).1; omega
            have h1 := hok.es2 q es[q] i (List.getElem?_eq_getElem hqlt) hq
            have h2 := hanc es[q] (hok.es1 q _ (List.getElem?_eq_getElem hqlt)).1 h1
            have h3 := (inv.es q _ (List.getElem?_eq_getElem hqlt)).1 h2
            omega
        subst hqk
        obtain ⟨h1, h2, hh1, hh2, hqs⟩ := hend.done.eff i o hlt ho he
        rw [hown, hh] at hh1; cases hh1
        rw [hown] at hh2
        have hqlt : q < es.length := (List.getElem?_eq_some_iff.1 hq).1
        have hes' : ∀ (q' j : Nat), es[q']? = some j → ((L.setIfInBounds i true).getD j false = true ↔ q' < q + 1) := by
          intro q' j hq'
          by_cases e : i = j
          · subst e
            have h3 := (hok.es1 q' i hq').2
            have : i < L.size := by rw [inv.size]; exact hlt
            have h4 : (L.setIfInBounds i true).getD i false = true := by simp [this]
            rw [h4]
            constructor
            · intro _; omega
            · intro _; rfl
          · rw [getD_set_ne false e]
            have h3 := (hok.es1 q' j hq').2
            have hne : q' ≠ q := by
              rintro rfl
              rw [hq] at hq'; cases hq'; exact e rfl
            rw [inv.es q' j hq']
            omega
        exact hqs env hagree H a w _ _ hrep fun val w' hr' => next (q + 1) h2 val w' hh2 hqlt hes' hr'

/-- A drawn region, walked once. 'es': the operations that change the abstract state; 'tb': what is to be shown at more than one heap. -/
theorem VcDraw.lex {id : Nat} {s : S} {Q : S → Prop} (es : List Nat) (tb : List (Nat × List Nat)) (hm : P.follows .mixedOrders = true) (hok : lexOk ops es tb (mkAnc ops) = true)
    (h : vcLex P w0 T0 ops es tb ops.toList 0 [] [(s.rows, s.next)] s Q) : @VcDraw P w0 T0 b0 id ops s ⟨Q⟩ := by
  intro H a w _ hr
  refine wp_region_any hm ?_
  have hr' : Rep w0 T0 H s a { w with drawn := w.drawn + 1 } := by
    obtain ⟨m, hm⟩ := hr
    exact ⟨m, hm.drawn⟩
  have ok := LexOk.of hok
  have hg0 : ∀ r, s.get r = lexG ops s [] 0 r := by
    intro r; unfold lexG; split <;> simp
  obtain ⟨vs, hs, sf, hend⟩ := vcLex_ext ok ops.toList 0 [] [(s.rows, s.next)] s [] Q rfl (Nat.zero_le _) rfl rfl rfl rfl hg0
    ⟨fun j o h => absurd h (by omega), fun j o h => absurd h (by omega), fun j o d h => absurd h (by omega)⟩ (fun j o h => absurd h (by omega)) h
  have hL : ∀ j, (Array.replicate ops.size false).getD j false = false := fun j => getD_rep _ j
  have hop : openN (Array.replicate ops.size false) ops.size = ops.size := by
    unfold openN
    have : (List.range ops.size).countP (fun j => !(Array.replicate ops.size false).getD j false) = (List.range ops.size).length := by
      apply List.countP_eq_length.2
      intro j _
      rw [hL j]; rfl
    rw [this, List.length_range]
  refine lex_all ok hend ops.size (Array.replicate ops.size false) 0 s.env a _ hop ?_
  refine { size := by simp, closed := fun i o _ h => (by rw [hL] at h; cases h), kle := Nat.zero_le _, es := fun q i _ => (by rw [hL]; simp), get := fun r => ?_, rep := ⟨_, hend.pre 0 _ rfl, hr'⟩ }
  unfold stG
  split
  · rw [hL]; rfl
  · rfl
theorem VcDraw.lexCut {id : Nat} {s : S} {Q : S → Prop} (es : List Nat) (tb : List (Nat × List Nat)) (hm : P.follows .mixedOrders = true) (hok : lexOk ops es tb (mkAnc ops) = true) (shape : S)
    (h : vcLex P w0 T0 ops es tb ops.toList 0 [] [(s.rows, s.next)] s (fun s' => Ent w0 T0 b0 s' shape)) (hk : Q shape) : @VcDraw P w0 T0 b0 id ops s ⟨Q⟩ := by
  intro H a w hH hr
  refine wp_mono (VcDraw.lex (b0 := b0) (id := id) es tb hm hok h H a w hH hr) ?_
  rintro e a' w' ⟨he, s', hq, hr'⟩
  exact ⟨he, shape, hk, hq H a' w' hH hr'⟩
end
end Go.Fv
