/-
  A part of the proof of the claim: walks over the program's functions and the plain laws that these need. No condition of its own.
-/
import Derived.Test.YtmfhpdfebmhclaaDoorFvPart8
import Derived.Test.YtmfhpdfebmhclaaDoorFvPart7
namespace Go.Fv
set_option linter.unusedSectionVars false
open Go.RowKit
set_option linter.unusedVariables false
set_option linter.unusedSimpArgs false
set_option linter.unnecessarySimpa false

section
variable {P : Program} {w0 : World} {T0 : Bs} {b0 : Nat} {ops : Array Oper} {es : List Nat} {tb : List (Nat × List Nat)} {T : List Nat} {H : List (AV × Value)} [hG : GlB P w0 T0]

theorem getD_lo {L : Array Bool} {i : Nat} (h : L.getD i true = false) : L.getD i false = false := by
  rcases Nat.lt_or_ge i L.size with h' | h'
  · simpa [h'] using h
  · simp [Array.getElem?_eq_none h']
theorem getD_hi {L : Array Bool} {i : Nat} (hi : i < L.size) (h : L.getD i false = false) : L.getD i true = false := by
  simpa [hi] using h
theorem getD_rep (m j : Nat) : (Array.replicate m false).getD j false = false := by
  rcases Nat.lt_or_ge j m with h | h
  · simp [h]
  · simp [Array.getElem?_eq_none, h]

def openN (L : Array Bool) (n : Nat) : Nat := (List.range n).countP fun j => !L.getD j false
theorem openN_set {L : Array Bool} {i : Nat} (hs : i < L.size) (hi : L.getD i false = false) : ∀ n, openN (L.setIfInBounds i true) n + (if i < n then 1 else 0) = openN L n
  | 0 => by simp [openN]
  | n + 1 => by
    have ih := openN_set hs hi n
    unfold openN at *
    rw [List.range_succ, List.countP_append, List.countP_append, List.countP_singleton, List.countP_singleton]
    by_cases e : i = n
    · subst e
      have h1 : (L.setIfInBounds i true).getD i false = true := by simp [hs]
      rw [h1, hi]
      simp at ih ⊢
      omega
    · rw [getD_set_ne false e]
      by_cases h2 : i < n
      · rw [if_pos h2] at ih; rw [if_pos (show i < n + 1 by omega)]; omega
      · rw [if_neg h2] at ih; rw [if_neg (show ¬ i < n + 1 by omega)]; omega
theorem openN_zero {L : Array Bool} {n : Nat} (h : openN L n = 0) : ∀ i, i < n → L.getD i false = true := by
  intro i hi
  unfold openN at h
  have := List.countP_eq_zero.1 h i (List.mem_range.2 hi)
  simpa using this

/-- The registers when these are listed. -/
def stG (ops : Array Oper) (s0 : S) (vs : List AV) (L : Array Bool) (r : Nat) : AV := match dix ops r with
  | some j => bif L.getD j false then vs.getD j .dead else s0.get r
  | none => s0.get r

structure LexInv (w0 : World) (T0 : Bs) (H : List (AV × Value)) (ops : Array Oper) (es : List Nat) (s0 : S) (vs : List AV) (hs : List HpS) (L : Array Bool) (k : Nat) (env : List (Nat × AV)) (a : Act) (w : World) : Prop where
  size : L.size = ops.size
  closed : ∀ (i : Nat) (o : Oper), ops[i]? = some o → L.getD i false = true → ∀ e, e ∈ o.after → Region.binds .any e = true → L.getD e.on false = true
  kle : k ≤ es.length
  es : ∀ (q i : Nat), es[q]? = some i → (L.getD i false = true ↔ q < k)
  get : ∀ r, S.get ⟨s0.n, env, [], 0⟩ r = stG ops s0 vs L r
  rep : ∃ h, hs[k]? = some h ∧ Rep w0 T0 H ⟨s0.n, env, h.1, h.2⟩ a w

theorem anc_listed (hok : LexOk ops es tb T) {L : Array Bool} (hsz : L.size = ops.size) (hc : ∀ (i : Nat) (o : Oper), ops[i]? = some o → L.getD i false = true → ∀ e, e ∈ o.after → Region.binds .any e = true → L.getD e.on false = true) :
    ∀ (i : Nat) (o : Oper), ops[i]? = some o → (∀ e, e ∈ o.after → Region.binds .any e = true → L.getD e.on false = true) → ∀ q, q < ops.size → bitT T i q = true → L.getD q false = true := by
  intro i
  induction i using Nat.strongRecOn with
  | _ i ih =>
    intro o hi hd q hq hb
    obtain ⟨e, he, hbd, hx⟩ := hok.anc i o hi q hq hb
    rcases hx with rfl | hx
    · exact hd e he hbd
    · have hlt := hok.low i o hi e he hbd
      have hL := hd e he hbd
      cases hoe : ops[e.on]? with
      | none =>
        have := Array.getElem?_eq_none_iff.1 hoe
        have hi' := (Array.getElem?_eq_some_iff.1 hi).1
        omega
      | some oe => exact ih e.on hlt oe hoe (hc e.on oe hoe hL) q hq hx

theorem lex_all (hok : LexOk ops es tb T) {s0 sf : S} {Q : S → Prop} {vs : List AV} {hs : List HpS} {hs0 : List HpS} (hend : LexEnd P w0 T0 ops es tb s0 hs0 Q vs hs sf) :
    ∀ (fuel : Nat) (L : Array Bool) (k : Nat) (env : List (Nat × AV)) (a : Act) (w : World), openN L ops.size = fuel → LexInv w0 T0 H ops es s0 vs hs L k env a w →
      wpAny P .any ops (fun e a' w' => e = .normal ∧ ∃ s', Q s' ∧ Rep w0 T0 H s' a' w') fuel L a w := by
  have fin : ∀ (L : Array Bool) (k : Nat) (env : List (Nat × AV)) (a : Act) (w : World), (∀ i, i < ops.size → L.getD i false = true) → LexInv w0 T0 H ops es s0 vs hs L k env a w → ∃ s', Q s' ∧ Rep w0 T0 H s' a w := by
    intro L k env a w hall inv
    have hk : k = es.length := by
      rcases Nat.lt_or_ge k es.length with hlt | hge
      · have h1 := inv.es k es[k] (List.getElem?_eq_getElem hlt)
        have h2 := hok.es1 k es[k] (List.getElem?_eq_getElem hlt)
        have := h1.1 (hall _ h2.1)
        omega
      · have := inv.kle; omega
    obtain ⟨h, hh, m, hm⟩ := inv.rep
    have hl := hend.last
    rw [hok.tot, ← hk, hh] at hl
    cases hl
    refine ⟨sf, hend.q, m, ?_⟩
    refine { size := by rw [hend.n]; exact hm.size, nodef := hm.nodef, below := hm.below, held := hm.held, rows := hm.rows, sep := hm.sep, env := ?_ }
    intro r v hv
    have hg : S.get ⟨s0.n, env, [], 0⟩ r = v := by
      rw [inv.get r]
      have h1 := hend.get r
      have h2 : sf.get r = v := by simp [S.get, hv]
      rw [← h2, h1]
      unfold stG lexG
      cases hx : dix ops r with
      | none => rfl
      | some j =>
        obtain ⟨o, ho, _⟩ := dix_some hx
        have hlt := (Array.getElem?_eq_some_iff.1 ho).1
        simp [hall j hlt, hlt]
    simp only [S.get] at hg
    cases hl : lk env r with
    | none => rw [hl] at hg; simp only at hg; subst hg; exact .dead _
    | some v' => rw [hl] at hg; simp only at hg; subst hg; exact hm.env r v' hl
  intro fuel
  induction fuel with
  | zero =>
    intro L k env a w hf inv
    have hall := openN_zero hf
    refine ⟨?_, rfl, fin L k env a w hall inv⟩
    apply List.eq_nil_iff_forall_not_mem.2
    intro j hj
    obtain ⟨h1, o, ho, _⟩ := mem_ready.1 hj
    have hlt := (Array.getElem?_eq_some_iff.1 ho).1
    have h2 := hall j hlt
    rw [getD_lo h1] at h2
    cases h2
  | succ fuel ih =>
    intro L k env a w hf inv
    refine ⟨?_, ?_⟩
    · intro hr
      refine ⟨rfl, fin L k env a w ?_ inv⟩
      intro i
      induction i using Nat.strongRecOn with
      | _ i ihi =>
        intro hi
        cases hL : L.getD i false with
        | true => rfl
        | false =>
          exfalso
          obtain ⟨o, ho⟩ : ∃ o, ops[i]? = some o := ⟨ops[i], Array.getElem?_eq_getElem hi⟩
          have hmem : i ∈ Region.ready .any ops L := mem_ready.2 ⟨getD_hi (by rw [inv.size]; exact hi) hL, o, ho, fun e he hb => ihi e.on (hok.low i o ho e he hb) (Nat.lt_trans (hok.low i o ho e he hb) hi)⟩
          rw [hr] at hmem; cases hmem
    · intro i hi
      obtain ⟨hun, o, ho, hdep⟩ := mem_ready.1 hi
      have hlt := (Array.getElem?_eq_some_iff.1 ho).1
      have hL : L.getD i false = false := getD_lo hun
      have hanc := anc_listed hok inv.size inv.closed i o ho hdep
      -- what the operation looks at
      have hagree : ∀ r, r ∈ o.looksAt ops → S.get ⟨s0.n, env, [], 0⟩ r = lexG ops s0 vs i r := by
        intro r hr
        rw [inv.get r]
        unfold stG lexG
        cases hx : dix ops r with
        | none => rfl
        | some j =>
          obtain ⟨oj, hj, hdj⟩ := dix_some hx
          have hjlt := (Array.getElem?_eq_some_iff.1 hj).1
          rcases hok.look i o r j oj ho hj hdj hr with ⟨hb, hji⟩ | ⟨hb, hij, hb'⟩
          · dsimp only
            rw [hanc j hjlt hb, if_pos hji]; rfl
          · have hLj : L.getD j false = false := by
              cases hLj : L.getD j false with
              | false => rfl
              | true =>
                have := anc_listed hok inv.size inv.closed j oj hj (inv.closed j oj hj hLj) i hlt hb'
                rw [hL] at this; cases this
            dsimp only
            rw [hLj, if_neg (by omega)]; rfl
      -- one more is listed
      have next : ∀ (k' : Nat) (h' : HpS) (val : Value) (w' : World), hs[k']? = some h' → k' ≤ es.length → (∀ (q j : Nat), es[q]? = some j → ((L.setIfInBounds i true).getD j false = true ↔ q < k')) →
          Rep w0 T0 ((vs.getD i .dead, val) :: H) ⟨s0.n, env, h'.1, h'.2⟩ a w' →
          wpAny P .any ops (fun e a' w' => e = .normal ∧ ∃ s', Q s' ∧ Rep w0 T0 H s' a' w') fuel (L.setIfInBounds i true) (a.put o.dst val) w' := by
        intro k' h' val w' hh' hk' hes' ⟨m', hm'⟩
        have hop := openN_set (by rw [inv.size]; exact hlt) hL ops.size
        rw [if_pos hlt] at hop
        have hclosed : ∀ (j : Nat) (oj : Oper), ops[j]? = some oj → (L.setIfInBounds i true).getD j false = true → ∀ e, e ∈ oj.after → Region.binds .any e = true → (L.setIfInBounds i true).getD e.on false = true := by
          intro j oj hj hLj e he hb
          by_cases hij : i = j
          · subst hij
            rw [ho] at hj; cases hj
            exact getD_set_true (hdep e he hb)
          · rw [getD_set_ne false hij] at hLj
            exact getD_set_true (inv.closed j oj hj hLj e he hb)
        have hset : ∀ r, o.dst ≠ some r → stG ops s0 vs (L.setIfInBounds i true) r = stG ops s0 vs L r := by
          intro r hr
          unfold stG
          cases hx : dix ops r with
          | none => rfl
          | some j =>
            dsimp only
            have hne : i ≠ j := by
              rintro rfl
              obtain ⟨oj, hj, hdj⟩ := dix_some hx
              rw [ho] at hj; cases hj
              exact hr hdj
            rw [getD_set_ne false hne]
        cases hd : o.dst with
        | none =>
          refine ih _ k' env _ w' (by omega) { size := by simpa using inv.size, closed := hclosed, kle := hk', es := hes', get := fun r => ?_, rep := ⟨h', hh', m', hm'.unhold⟩ }
          rw [hset r (by rw [hd]; simp)]; exact inv.get r
        | some d =>
          have hdn : d < s0.n := hend.done.put i o d hlt ho hd
          have hput := hm'.unhold.putd (hm'.held _ (.head _)) (d := d) hdn
          refine ih _ k' ((d, vs.getD i .dead) :: env) _ w' (by omega) { size := by simpa using inv.size, closed := hclosed, kle := hk', es := hes', get := fun r => ?_, rep := ⟨h', hh', m', hput⟩ }
          by_cases e : d = r
          · subst e
            have hx := hok.dix ho hd
            have hL1 : (L.setIfInBounds i true).getD i false = true := by
              have : i < L.size := by rw [inv.size]; exact hlt
              simp [this]
            unfold stG
            rw [hx]
            dsimp only
            rw [hL1]
            simp [S.get, lk]
          · rw [hset r (by rw [hd]; simpa using e), ← inv.get r]
            simp [S.get, lk, e]
      obtain ⟨h, hh, hrep⟩ := inv.rep
      unfold wpOp
      rw [ho]
      dsimp only
      have wrap : ∀ {A B : Prop} {b : Bool} {C : Prop}, (if b = true then A else B) → (if b = true then A ∨ C else B) := by
        intro A B b C h
        cases b with
        | true => simpa using Or.inl h
        | false => simpa using h
      apply wrap
      cases he : es.elem i with
      | false =>
        have hes' : ∀ (q j : Nat), es[q]? = some j → ((L.setIfInBounds i true).getD j false = true ↔ q < k) := by
          intro q j hq
          have hne : i ≠ j := by
            rintro rfl
            have : es.elem i = true := by simpa using List.mem_of_getElem? hq
            rw [he] at this; cases this
          rw [getD_set_ne false hne]
          exact inv.es q j hq
        have hqs : QS P w0 T0 ops o s0.n (lexG ops s0 vs i) h h (vs.getD i .dead) := by
          rcases hok.heaps i o ho he k inv.kle with h0 | h0 | ⟨k', e, hk', hke, hb⟩ | ⟨k', e, hk', hke, hb⟩
          · obtain ⟨h2, hh2, hq⟩ := hend.done.quiet i o hlt ho he
            rw [← h0, hh] at hh2; cases hh2
            exact hq
          · exact hend.re i o ho he k h0 h hh
          · have h1 := hanc e (hok.es1 k' e hke).1 hb
            have := (inv.es k' e hke).1 h1
            omega
          · have h1 := (inv.es k' e hke).2 hk'
            cases hoe : ops[e]? with
            | none =>
              have h2 := Array.getElem?_eq_none_iff.1 hoe
              have h3 := (hok.es1 k' e hke).1
              omega
            | some oe =>
              have := anc_listed hok inv.size inv.closed e oe hoe (inv.closed e oe hoe h1) i hlt hb
              rw [hL] at this; cases this
        exact hqs env hagree H a w _ _ hrep fun val w' hr' => next k h val w' hh inv.kle hes' hr'
      | true =>
        obtain ⟨q, hq⟩ := List.mem_iff_getElem?.1 (show i ∈ es by simpa using he)
        obtain ⟨_, hown⟩ := hok.es1 q i hq
        have hge : ¬ q < k := fun hlt' => by
          have := (inv.es q i hq).2 hlt'
          rw [hL] at this; cases this
        have hqk : q = k := by
          cases q with
          | zero => omega
          | succ q =>
            have hqlt : q < es.length := by
              have := (List.getElem?_eq_some_iff.1 hq).1; omega
            have h1 := hok.es2 q es[q] i (List.getElem?_eq_getElem hqlt) hq
            have h2 := hanc es[q] (hok.es1 q _ (List.getElem?_eq_getElem hqlt)).1 h1
            have h3 := (inv.es q _ (List.getElem?_eq_getElem hqlt)).1 h2
            omega
        subst hqk
        obtain ⟨h1, h2, hh1, hh2, hqs⟩ := hend.done.eff i o hlt ho he
        rw [hown, hh] at hh1; cases hh1
        rw [hown] at hh2
        have hqlt : q < es.length := (List.getElem?_eq_some_iff.1 hq).1
        have hes' : ∀ (q' j : Nat), es[q']? = some j → ((L.setIfInBounds i true).getD j false = true ↔ q' < q + 1) := by
          intro q' j hq'
          by_cases e : i = j
          · subst e
            have h3 := (hok.es1 q' i hq').2
            have : i < L.size := by rw [inv.size]; exact hlt
            have h4 : (L.setIfInBounds i true).getD i false = true := by simp [this]
            rw [h4]
            constructor
            · intro _; omega
            · intro _; rfl
          · rw [getD_set_ne false e]
            have h3 := (hok.es1 q' j hq').2
            have hne : q' ≠ q := by
              rintro rfl
              rw [hq] at hq'; cases hq'; exact e rfl
            rw [inv.es q' j hq']
            omega
        exact hqs env hagree H a w _ _ hrep fun val w' hr' => next (q + 1) h2 val w' hh2 hqlt hes' hr'

/-- A drawn region, walked once. 'es': the operations that change the abstract state; 'tb': what is to be shown at more than one heap. -/
theorem VcDraw.lex {id : Nat} {s : S} {Q : S → Prop} (es : List Nat) (tb : List (Nat × List Nat)) (hm : P.follows .mixedOrders = true) (hok : lexOk ops es tb (mkAnc ops) = true)
    (h : vcLex P w0 T0 ops es tb ops.toList 0 [] [(s.rows, s.next)] s Q) : @VcDraw P w0 T0 b0 id ops s ⟨Q⟩ := by
  intro H a w _ hr
  refine wp_region_any hm ?_
  have hr' : Rep w0 T0 H s a { w with drawn := w.drawn + 1 } := by
    obtain ⟨m, hm⟩ := hr
    exact ⟨m, hm.drawn⟩
  have ok := LexOk.of hok
  have hg0 : ∀ r, s.get r = lexG ops s [] 0 r := by
    intro r; unfold lexG; split <;> simp
  obtain ⟨vs, hs, sf, hend⟩ := vcLex_ext ok ops.toList 0 [] [(s.rows, s.next)] s [] Q rfl (Nat.zero_le _) rfl rfl rfl rfl hg0
    ⟨fun j o h => absurd h (by omega), fun j o h => absurd h (by omega), fun j o d h => absurd h (by omega)⟩ (fun j o h => absurd h (by omega)) h
  have hL : ∀ j, (Array.replicate ops.size false).getD j false = false := fun j => getD_rep _ j
  have hop : openN (Array.replicate ops.size false) ops.size = ops.size := by
    unfold openN
    have : (List.range ops.size).countP (fun j => !(Array.replicate ops.size false).getD j false) = (List.range ops.size).length := by
      apply List.countP_eq_length.2
      intro j _
      rw [hL j]; rfl
    rw [this, List.length_range]
  refine lex_all ok hend ops.size (Array.replicate ops.size false) 0 s.env a _ hop ?_
  refine { size := by simp, closed := fun i o _ h => (by rw [hL] at h; cases h), kle := Nat.zero_le _, es := fun q i _ => (by rw [hL]; simp), get := fun r => ?_, rep := ⟨_, hend.pre 0 _ rfl, hr'⟩ }
  unfold stG
  split
  · rw [hL]; rfl
  · rfl
end
end Go.Fv

/-
  Calls whose results are only read by the caller: they stand as data, and the caller's state stays as it is.
-/
namespace Go.Fv
set_option linter.unusedSectionVars false
open Go.RowKit
set_option linter.unusedVariables false
set_option linter.unusedSimpArgs false
set_option linter.unnecessarySimpa false

def outOk (rows : List (Nat × Item)) (x y : AV) : Prop := match x with
  | .tup l => ∃ l', argOkL rows l l' ∧ y = .tup l'
  | x => argOk rows x y

section
variable {P : Program} {w0 : World} {T0 : Bs}

theorem OutOk.ro {T : Nat → Prop} {B : Nat} {w : World} {out out' : AV} {rows : List (Nat × Item)} {v : Value} (h : OutOk T B w out rows v) (ho : outOk rows out out') : OutOk T B w out' [] v := by
  obtain ⟨m, N, hr, hrows, hsep⟩ := h
  have hblk : ∀ i it, lk rows i = some it → ∀ b, blk (m i) = some b → B ≤ b := fun i it hi b hb => ((hrows i it hi).2.blk b hb).1
  have hl : Lend w (⟨w, allow (bs T) B m rows, m, N⟩ : Ctx) rows (allow (bs T) B (fun _ => undef) []) :=
    { hw := rfl, t := fun b hb => ⟨hb.1, fun i it hi => by simp [lk] at hi⟩,
      own := fun i e r hi => by
        obtain ⟨n, cells, hc, hn, hq, _⟩ := (hrows i _ hi).2
        exact ⟨fun b hb => ⟨.inl (hblk i _ hi b hb), fun i it hi => by simp [lk] at hi⟩, n, cells, hc, hn, hq⟩,
      box := fun i e cs hi => by
        obtain ⟨g, vs, hv, hg, hl, hh⟩ := (hrows i _ hi).2
        exact ⟨g, vs, hv, ⟨.inl hg, fun i it hi => by simp [lk] at hi⟩, hl, hh⟩,
      map := fun i ks vs hi => by
        obtain ⟨g, es, clock, hv, hg, h1, h2, h3, h4, hh⟩ := (hrows i _ hi).2
        exact ⟨g, es, clock, hv, ⟨.inl hg, fun i it hi => by simp [lk] at hi⟩, h1, h2, h3, h4, hh⟩ }
  refine ⟨fun _ => undef, 0, ?_, fun i it hi => by simp [lk] at hi, fun i j it jt b hi => by simp [lk] at hi⟩
  unfold outOk at ho
  split at ho
  · obtain ⟨l', ha, rfl⟩ := ho
    cases hr with
    | tup _ vs hv => exact .tup _ _ (argOkT_rv hl _ ha hv)
  · exact argOkN_rv hl 6 _ ho hr

theorem OutOk.noid {T : Nat → Prop} {B : Nat} {w : World} {out : AV} {v : Value} (h : OutOk T B w out [] v) : OutOk T B w out [] v := h

/-- A CALL BY A CONTRACT whose results share nothing, and are only read. -/
theorem VcCall.ro [hG : GlB P w0 T0] {f : Nat} {args args' : List AV} {out : AV} (out' : AV) {rows : List (Nat × Item)} {s : S} {K : AV → S → Prop} (h : FnFr P f args' out rows) (ha : argOkL s.rows args args') (ho : outOk rows out out') (hn : noId out' = true)
    (hk : K out' s) : @VcCall P w0 T0 f args s ⟨K⟩ := by
  have h' : FnFr P f args' out' [] := ⟨h.1, fun w T vals hgl hv => (h.2 w T vals hgl hv).mono fun e w' ⟨v, he, hb, hq⟩ => ⟨v, he, hb, hq.ro ho⟩⟩
  refine VcCall.fr h' ha 0 (noId_below 0 _ hn) trivial ?_
  rw [noId_ren _ _ hn]
  exact hk

theorem FnOk.ro {f : Nat} {args : List AV} {out out' : AV} {rows : List (Nat × Item)} (h : FnOk P f args out rows) (ho : outOk rows out out') : FnOk P f args out' [] :=
  ⟨h.1, fun w T vals hgl hv => (h.2 w T vals hgl hv).mono fun e w' ⟨v, he, hb, hq⟩ => ⟨v, he, hb, hq.ro ho⟩⟩
/-- A CALL BY A CONTRACT whose results may share memory with the arguments, none of which is owned; the results are only read. -/
theorem VcCall.ros [hG : GlB P w0 T0] {f : Nat} {args args' : List AV} {out : AV} (out' : AV) {rows : List (Nat × Item)} {s : S} {K : AV → S → Prop} (h : FnOk P f args' out rows) (ha : argOkL [] args args') (ho : outOk rows out out') (hn : noId out' = true)
    (hk : K out' s) : @VcCall P w0 T0 f args s ⟨K⟩ := by
  refine VcCall.sh s.rows (h.ro ho) [] ha (fun _ _ h => h) (fun i it hi => by simp [lk] at hi) 0 (noId_below 0 _ hn) trivial ?_
  rw [noId_ren _ _ hn]
  exact hk
/-- The same, and its new rows are the caller's own. -/
theorem VcCall.shr [hG : GlB P w0 T0] {f : Nat} {args args' : List AV} {out : AV} {rows : List (Nat × Item)} {s : S} {K : AV → S → Prop} (h : FnOk P f args' out rows) (ha : argOkL [] args args') (N : Nat) (hN : Fv.below N out = true) (hNr : rowsB N rows)
    (hk : K (ren (fun j => s.next + j) out) (s.after s.rows N rows)) : @VcCall P w0 T0 f args s ⟨K⟩ :=
  VcCall.sh s.rows h [] ha (fun _ _ h => h) (fun i it hi => by simp [lk] at hi) N hN hNr hk
end
end Go.Fv

/-
  A nil slice in a box, as an owned row without elements.
-/
namespace Go.Fv
set_option linter.unusedSectionVars false
open Go.RowKit
set_option linter.unusedVariables false
set_option linter.unusedSimpArgs false
set_option linter.unnecessarySimpa false

section
variable {P : Program} {w0 : World} {T0 : Bs} {b0 : Nat}

theorem RvL.setNil {c : Ctx} {x : AV} (hx : Rv c x (.slice none 0 0)) : ∀ {cs : List AV} {vs : List Value} {j : Nat}, RvL c cs vs → cs[j]? = some .nilS → RvL c (cs.set j x) vs
  | _, _, j, .nil, h => by simp at h
  | _, _, 0, .cons y v l vs hy h1 ht, h => by
    simp at h; subst h
    cases hy
    exact .cons _ _ _ _ hx h1 ht
  | _, _, j + 1, .cons y v l vs hy h1 ht, h => by
    simp at h
    exact .cons _ _ _ _ hy h1 (ht.setNil hx h)

/-- A nil slice in a box is an owned row without elements. -/
theorem Ent.nilBox {s : S} (i : Nat) {t : TypeId} {cs : List AV} (j : Nat) (e : TypeId) {z : Value} (hz : ElemZ P e z) (hi : lk s.rows i = some (.box t cs)) (hj : cs[j]? = some .nilS) :
    Ent w0 T0 b0 s { s with rows := put ((s.next, .row e (zrow z 0)) :: s.rows) i (.box t (cs.set j (.own s.next))), next := s.next + 1 } := by
  rintro H a w hH ⟨m, hm⟩
  have hlt := (hm.rows i _ hi).1
  have h1 := new_nil hm hz
  have hi' : lk (s.add (.row e (zrow z 0))).rows i = some (.box t cs) := by
    simp only [S.add, lk]
    rw [if_neg (by omega)]; exact hi
  have h0 := (h1.rows i _ hi').2
  have h2 := h1.upd h1.below hi' (fun _ _ _ => rfl) (.box t (cs.set j (.own s.next))) (fun c hle hw hmm hN => ?_)
  · exact ⟨_, h2.unhold⟩
  · obtain ⟨g, vs, hv, hg, hl, hh⟩ := h0
    refine ⟨g, vs, hv, hg, ?_, by rw [hw]; exact hh⟩
    exact (hl.mono hle).setNil ((h1.held _ (.head _)).mono hle) hj
end
end Go.Fv

/-
  What a function value has captured, where nothing of it is the caller's own memory.
-/
namespace Go.Fv
set_option linter.unusedSectionVars false
open Go.RowKit
set_option linter.unusedVariables false

def lendB : Nat → AV → Bool
  | 0, _ => false
  | n + 1, x => match x with
    | .agg cs => cs.all (lendB n)
    | .fn _ cs => cs.all (lendB n)
    | .ro _ => true
    | .bool _ => true
    | .int _ _ => true
    | .str _ => true
    | .raw _ => true
    | .cell _ => true
    | .nilS => true
    | .mp _ _ => true
    | _ => false

theorem noIdL_all : ∀ {l : List AV}, (∀ x, x ∈ l → noId x = true) → noIdL l = true
  | [], _ => rfl
  | x :: l, h => by simp only [noIdL, Bool.and_eq_true]; exact ⟨h x (.head _), noIdL_all fun y hy => h y (.tail _ hy)⟩
theorem lendB_noId : ∀ (n : Nat) (x : AV), lendB n x = true → noId x = true
  | 0, x, h => by simp [lendB] at h
  | n + 1, x, h => by
    cases x <;> simp only [lendB] at h <;> first | rfl | (cases h; done) | skip
    · simp only [noId]; exact noIdL_all fun y hy => lendB_noId n y (List.all_eq_true.1 h y hy)
    · simp only [noId]; exact noIdL_all fun y hy => lendB_noId n y (List.all_eq_true.1 h y hy)
theorem allOk_same {R : AV → AV → Prop} : ∀ {l : List AV}, (∀ x, x ∈ l → R x x) → allOk R l l
  | [], _ => rfl
  | x :: l, h => ⟨x, l, h x (.head _), allOk_same fun y hy => h y (.tail _ hy), rfl⟩
theorem lendB_ok (rows : List (Nat × Item)) : ∀ (n : Nat) (x : AV), lendB n x = true → argOkN rows n x x
  | 0, x, h => by simp [lendB] at h
  | n + 1, x, h => by
    cases x <;> simp only [lendB] at h <;> first | (cases h; done) | skip
    all_goals first | (simp only [argOkN]; done) | (simp only [argOkN]; exact .inl trivial) | (simp only [argOkN]; exact ⟨_, allOk_same fun y hy => lendB_ok rows n y (List.all_eq_true.1 h y hy), rfl⟩) | skip

class CapsOk (caps : List AV) : Prop where
  ok : caps.all (lendB 5) = true
section
variable {caps : List AV} [h : CapsOk caps]
theorem caps_noId : noIdL caps = true := noIdL_all fun x hx => lendB_noId 5 x (List.all_eq_true.1 h.ok x hx)
theorem lendB_up : ∀ (n : Nat) (x : AV), lendB n x = true → lendB (n + 1) x = true
  | 0, x, h => by simp [lendB] at h
  | n + 1, x, h => by
    cases x <;> simp only [lendB] at h ⊢ <;> first | (cases h; done) | rfl | skip
    · exact List.all_eq_true.2 fun y hy => lendB_up n y (List.all_eq_true.1 h y hy)
    · exact List.all_eq_true.2 fun y hy => lendB_up n y (List.all_eq_true.1 h y hy)
theorem renL_caps (p : Nat → Nat) : renL p caps = caps := noIdL_ren p caps caps_noId
theorem belowL_caps (n : Nat) : belowL n caps = true := noIdL_below n caps caps_noId
theorem allOk_caps (rows : List (Nat × Item)) : allOk (argOkN rows 6) caps caps := allOk_same fun x hx => lendB_ok rows 6 x (lendB_up 5 x (List.all_eq_true.1 h.ok x hx))
theorem allOk_caps5 (rows : List (Nat × Item)) : allOk (argOkN rows 5) caps caps := allOk_same fun x hx => lendB_ok rows 5 x (List.all_eq_true.1 h.ok x hx)
end
mutual
theorem mkV_noId : ∀ (x y : AV), noId x = true → mkV x y = []
  | .own _, _, h => by simp [noId] at h
  | .ptr _ _, _, h => by simp [noId] at h
  | .elt _ _ _ _, _, h => by simp [noId] at h
  | .agg l, y, h => by simp only [mkV]; split <;> first | exact mkL_noId l _ (by simpa [noId] using h) | rfl
  | .tup l, y, h => by simp only [mkV]; split <;> first | exact mkL_noId l _ (by simpa [noId] using h) | rfl
  | .fn _ l, y, h => by simp only [mkV]; split <;> first | exact mkL_noId l _ (by simpa [noId] using h) | rfl
  | .dead, _, _ => rfl
  | .nilS, _, _ => rfl
  | .bool _, _, _ => rfl
  | .int _ _, _, _ => rfl
  | .str _, _, _ => rfl
  | .ro _, _, _ => rfl
  | .cell _, _, _ => rfl
  | .raw _, _, _ => rfl
  | .mp _ _, _, _ => rfl
  | .opt _ x, y, h => by simp only [mkV]; split <;> first | exact mkV_noId x _ (by simpa [noId] using h) | rfl
theorem mkL_noId : ∀ (x y : List AV), noIdL x = true → mkL x y = []
  | [], _, _ => rfl
  | x :: l, y, h => by
    simp only [noIdL, Bool.and_eq_true] at h
    simp only [mkL]; split
    · rw [mkV_noId x _ h.1, mkL_noId l _ h.2]; rfl
    · rfl
end
theorem mkLL_noId : ∀ (x y : List (List AV)), x.all noIdL = true → mkLL x y = []
  | [], _, _ => rfl
  | x :: l, y, h => by
    simp only [List.all_cons, Bool.and_eq_true] at h
    simp only [mkLL]; split
    · rw [mkL_noId x _ h.1, mkLL_noId l _ h.2]; rfl
    · rfl
theorem mkR_ok (r r' : RowV) [h : RowNoId r] : mkR r r' = [] := by
  have := h.ok
  cases r <;> cases r' <;> first | rfl | exact mkLL_noId _ _ this
theorem mkL_caps {caps : List AV} [h : CapsOk caps] (y : List AV) : mkL caps y = [] := mkL_noId caps y caps_noId
end Go.Fv

/-
  The walk of drawn regions, in the set.
-/
namespace Go.Fv
set_option linter.unusedSectionVars false
attribute [go_sem] vcConvX appTy vcLookup lookK vcMakeMap vcMapUpd vcMapEnt entK vcEntStore vcRange vcNext vcEntry List.getLast?_concat mapOf gLook KeysT_nil gMM Bool.false_eq_true true_implies LetW_q vcLex gGo_some bGo_true bGo_false eGo_mk qGo_val qGo_lin qGo_call lxPut lxEnv dstOk putS qCond qRes rOps peelV onlyE onlyP gd qVc redo1 redo accPut ksOf peelC esMem isLin Option.toList_some Option.toList_none renL_caps belowL_caps
end Go.Fv

/-
  Maps whose keys and values are told by lists of plain data.
-/
namespace Go.Fv
set_option linter.unusedSectionVars false
set_option linter.unusedVariables false
end Go.Fv

/-
  Small facts about lists.
-/
namespace Go.Fv
set_option linter.unusedSectionVars false
theorem getD_lt {α : Type} {l : List α} {i : Nat} {d : α} (h : i < l.length) : l.getD i d = l[i] := by simp [List.getD, h]
theorem take_eq_iff {α : Type} [DecidableEq α] {a b : List α} (d : α) (h : a.length = b.length) : ∀ {i : Nat}, i ≤ a.length → ((∀ j, j < i → a.getD j d = b.getD j d) ↔ a.take i = b.take i)
  | 0, _ => by simp
  | i + 1, hi => by
    have ih := take_eq_iff d h (i := i) (by omega)
    rw [List.take_succ_eq_append_getElem (by omega), List.take_succ_eq_append_getElem (by omega)]
    constructor
    · intro hh
      have h1 := ih.1 fun j hj => hh j (by omega)
      have h2 := hh i (by omega)
      rw [getD_lt (by omega), getD_lt (by omega)] at h2
      rw [h1, h2]
    · intro hh j hj
      have := List.append_inj hh (by simp; omega)
      by_cases e : j = i
      · subst e
        rw [getD_lt (by omega), getD_lt (by omega)]
        simpa using this.2
      · exact ih.2 this.1 j (by omega)
theorem eq_of_getD {α : Type} [DecidableEq α] {a b : List α} (d : α) (h : a.length = b.length) (hh : ∀ j, j < a.length → a.getD j d = b.getD j d) : a = b := by
  have := (take_eq_iff d h (Nat.le_refl _)).1 hh
  rwa [List.take_length, h, List.take_length] at this

theorem renL_bools (p : Nat → Nat) : ∀ l : List Bool, renL p (l.map .bool) = l.map .bool
  | [] => rfl
  | b :: l => by simp only [List.map_cons, renL, ren]; rw [renL_bools p l]
theorem belowL_bools (n : Nat) : ∀ l : List Bool, belowL n (l.map .bool) = true
  | [] => rfl
  | b :: l => by simp only [List.map_cons, belowL, below, Bool.true_and]; exact belowL_bools n l
theorem mkL_bools : ∀ (l : List Bool) (y : List AV), mkL (l.map .bool) y = []
  | [], _ => by simp [mkL]
  | b :: l, y => by
    simp only [List.map_cons, mkL]
    split
    · simp only [mkV, List.nil_append]; exact mkL_bools l _
    · rfl
theorem allOk_bools (rows : List (Nat × Item)) (n : Nat) : ∀ l : List Bool, allOk (argOkN rows (n + 1)) (l.map .bool) (l.map .bool)
  | [] => rfl
  | b :: l => ⟨.bool b, l.map .bool, by simp [argOkN], allOk_bools rows n l, rfl⟩
theorem set_bools (l : List Bool) (i : Nat) (b : Bool) : (l.map AV.bool).set i (.bool b) = (l.set i b).map .bool := by rw [List.map_set]
theorem noRoL_bools : ∀ l : List Bool, noRoL (l.map .bool) = true
  | [] => rfl
  | b :: l => by simp only [List.map_cons, noRoL, noRo, Bool.true_and]; exact noRoL_bools l
theorem spl_eq : ∀ (cs bs : List AV) (off : Nat), off + cs.length ≤ bs.length → spl bs off cs = bs.take off ++ cs ++ bs.drop (off + cs.length)
  | [], bs, off, _ => by simp [spl]
  | c :: cs, bs, off, h => by
    simp only [List.length_cons] at h
    rw [spl, spl_eq cs _ _ (by simp; omega), List.take_set, List.drop_set, if_pos (by omega)]
    rw [List.take_succ_eq_append_getElem (by omega), List.set_append_right _ _ (by simp; omega)]
    have e : off - (List.take off bs).length = 0 := by simp; omega
    rw [e]
    simp only [List.set_cons_zero, List.length_cons, List.append_assoc, List.cons_append, List.nil_append]
    have e2 : off + 1 + cs.length = off + (cs.length + 1) := by omega
    rw [e2]
theorem spl_all {bs cs : List AV} (h : cs.length = bs.length) : spl bs 0 cs = cs := by
  rw [spl_eq _ _ _ (by omega)]; simp [h]
attribute [simp] noIdR_ok renR_ok belowR_ok mkR_ok
attribute [go_sem] frzS noIdR_ok renR_ok belowR_ok renL_bools belowL_bools List.length_map Nat.mul_one set_bools
theorem up_add (a b : Nat) : (a : Int) + (b : Int) = ((a + b : Nat) : Int) := rfl
theorem up_one (a : Nat) : (a : Int) + 1 = ((a + 1 : Nat) : Int) := rfl
theorem up_mul (a b : Nat) : (a : Int) * (b : Int) = ((a * b : Nat) : Int) := (Int.natCast_mul a b).symm
theorem up_tmod (a b : Nat) : (a : Int).tmod (b : Int) = ((a % b : Nat) : Int) := (Int.ofNat_tmod a b).symm
theorem up_tdiv (a b : Nat) : (a : Int).tdiv (b : Int) = ((a / b : Nat) : Int) := (Int.ofNat_tdiv a b).symm
end Go.Fv

/-
  Families of rows: as many owned rows as a list tells, with names one behind the other.
-/
namespace Go.Fv
set_option linter.unusedSectionVars false
set_option linter.unusedVariables false
set_option linter.unusedSimpArgs false

/-- The rows L, named b, b + 1, .. -/
def famI : Nat → List Item → List (Nat × Item)
  | _, [] => []
  | b, it :: L => (b, it) :: famI (b + 1) L
theorem lk_famI : ∀ (L : List Item) (b j : Nat), lk (famI b L) j = if b ≤ j then L[j - b]? else none
  | [], b, j => by simp [famI, lk]
  | it :: L, b, j => by
    simp only [famI, lk, lk_famI L (b + 1) j]
    by_cases h : b = j
    · subst h; simp
    · rw [if_neg h]
      by_cases h2 : b ≤ j
      · rw [if_pos h2, if_pos (by omega)]
        have : j - b = (j - (b + 1)) + 1 := by omega
        rw [this, List.getElem?_cons_succ]
      · rw [if_neg h2, if_neg (by omega)]
theorem lk_fam {L : List Item} {b j : Nat} {it : Item} (h : L[j]? = some it) : lk (famI b L) (j + b) = some it := by
  rw [lk_famI, if_pos (by omega), Nat.add_sub_cancel]; exact h
/-- A row of names, each with plain values beside it: 'f' makes an element of a name and its number. -/
def famO (f : Nat → AV → List AV) (b n : Nat) : List (List AV) := (List.range n).map fun i => f i (.own (i + b))
theorem famO_get {f : Nat → AV → List AV} {b n i : Nat} (h : i < n) : (famO f b n)[i]? = some (f i (.own (i + b))) := by simp [famO, h]
theorem famO_len (f : Nat → AV → List AV) (b n : Nat) : (famO f b n).length = n := by simp [famO]
theorem famO_succ (f : Nat → AV → List AV) (b n : Nat) : famO f b (n + 1) = famO f b n ++ [f n (.own (n + b))] := by simp [famO, List.range_succ]

section
variable {w0 : World} {T0 : Bs} {b0 : Nat}
/-- THE STATE SAYS LESS, by any renaming that keeps what is low. -/
theorem Ent.ofF (p : Nat → Nat) {s s' : S} (hn : s'.n = s.n) (hb : b0 ≤ s'.next) (hlow : ∀ i, i < b0 → p i = i) (he : envOk p s s'.next s'.env)
    (hr : ∀ i it, lk s'.rows i = some it → i < s'.next ∧ lk s.rows (p i) = some (it.ren p) ∧ it.below s'.next = true)
    (hinj : ∀ i j it jt, lk s'.rows i = some it → lk s'.rows j = some jt → p i = p j → i = j) : Ent w0 T0 b0 s s' := by
  rintro H a w hH ⟨m, hm⟩
  have hren : CtxRen p (ctxOf T0 w0.heap.size m s w) (ctxOf T0 w0.heap.size (fun i => m (p i)) s' w) :=
    { m := fun _ _ => rfl,
      t := by
        intro b ⟨h1, h2⟩ _
        refine ⟨⟨h1, fun i it hi e => ?_⟩, rfl⟩
        obtain ⟨_, h3, _⟩ := hr i it hi
        exact h2 _ _ h3 e }
  refine ⟨fun i => m (p i), { size := by rw [hn]; exact hm.size, nodef := hm.nodef, below := hm.below, env := ?_, held := ?_, rows := ?_, sep := ?_ }⟩
  · intro r v hv
    obtain ⟨h1, h2⟩ := envOk_mem he r v (lk_mem hv)
    refine Rv.ren hren v h2 ?_
    have : Rv (ctxOf T0 w0.heap.size m s w) (s.get r) (a.tmps.getD r undef) := by
      simp only [S.get]
      cases hq : lk s.env r with
      | none => exact .dead _
      | some y => exact hm.env r y hq
    rw [← h1]; exact this
  · intro q hq
    have h1 := hH q hq
    refine Rv.ren hren q.1 (below_le hb _ h1) ?_
    rw [ren_low hlow _ h1]; exact hm.held q hq
  · intro i it hi
    obtain ⟨h1, h2, h3⟩ := hr i it hi
    exact ⟨h1, ItemOk.ren hren rfl h3 (hm.rows _ _ h2).2⟩
  · intro i j it jt b hi hj hbi hbj
    obtain ⟨_, h2, _⟩ := hr i it hi
    obtain ⟨_, h2', _⟩ := hr j jt hj
    exact hinj i j it jt hi hj (hm.sep _ _ _ _ b h2 h2' hbi hbj)
def subP (p : Nat → Nat) (rows : List (Nat × Item)) (N : Nat) : List (Nat × Item) → Prop
  | [] => True
  | (i, it) :: l => (lk rows (p i) = some (it.ren p) ∧ it.below N = true) ∧ subP p rows N l
theorem subP_lk {p : Nat → Nat} {rows : List (Nat × Item)} {N : Nat} : ∀ {l : List (Nat × Item)}, subP p rows N l → ∀ i it, lk l i = some it → lk rows (p i) = some (it.ren p) ∧ it.below N = true
  | (j, jt) :: l, h, i, it, hi => by
    simp only [lk] at hi
    split at hi
    · rename_i e; subst e; cases hi; exact h.1
    · exact subP_lk h.2 i it hi
/-- The state at which the concrete rows C stand, and behind them the family L, named from b on. -/
theorem Ent.fam (p : Nat → Nat) {s : S} {n b : Nat} {env : List (Nat × AV)} {C : List (Nat × Item)} {L : List Item} (hn : n = s.n) (hb : b0 ≤ L.length + b) (hlow : ∀ i, i < b0 → p i = i) (hC : ∀ x, x ∈ C → x.1 < b)
    (he : envOk p s (L.length + b) env) (hc : subP p s.rows (L.length + b) C)
    (hL : ∀ j it, L[j]? = some it → lk s.rows (p (j + b)) = some (it.ren p) ∧ it.below (L.length + b) = true)
    (hinj : ∀ i j, i < L.length + b → j < L.length + b → p i = p j → i = j) : Ent w0 T0 b0 s ⟨n, env, C ++ famI b L, L.length + b⟩ := by
  have hlt : ∀ i it, lk (C ++ famI b L) i = some it → i < L.length + b ∧ lk s.rows (p i) = some (it.ren p) ∧ it.below (L.length + b) = true := by
    intro i it hi
    rw [lk_append] at hi
    cases hq : lk C i with
    | some y =>
      rw [hq] at hi; cases hi
      have := hC _ (lk_mem hq)
      exact ⟨by simp at this; omega, subP_lk hc i _ hq⟩
    | none =>
      rw [hq] at hi
      simp only [lk_famI] at hi
      split at hi
      · rename_i hbi
        obtain ⟨h1, h2⟩ := List.getElem?_eq_some_iff.1 hi
        have := hL (i - b) it hi
        rw [Nat.sub_add_cancel hbi] at this
        exact ⟨by omega, this⟩
      · cases hi
  exact Ent.ofF p hn hb hlow he hlt fun i j it jt hi hj e => hinj i j (hlt i it hi).1 (hlt j jt hj).1 e
/-- The same, where the family's rows have no names in them. -/
theorem Ent.famR (p : Nat → Nat) {s : S} {n b N : Nat} {env : List (Nat × AV)} {C : List (Nat × Item)} {e : TypeId} {rs : List RowV} (hN : N = rs.length + b) (hn : n = s.n) (hb : b0 ≤ N) (hlow : ∀ i, i < b0 → p i = i) (hC : ∀ x, x ∈ C → x.1 < b)
    (he : envOk p s N env) (hc : subP p s.rows N C) (hid : ∀ r, r ∈ rs → noIdR r = true)
    (hL : ∀ j (h : j < rs.length), lk s.rows (p (j + b)) = some (.row e rs[j]))
    (hinj : ∀ i j, i < N → j < N → p i = p j → i = j) : Ent w0 T0 b0 s ⟨n, env, C ++ famI b (rs.map (Item.row e)), N⟩ := by
  subst hN
  have := Ent.fam (w0 := w0) (T0 := T0) (b0 := b0) (s := s) (n := n) (b := b) (env := env) (C := C) (L := rs.map (Item.row e)) p hn (by simpa using hb) hlow hC (by simpa using he) (by simpa using hc) ?_ (by simpa using hinj)
  · simpa using this
  · intro j it hj
    obtain ⟨h1, rfl⟩ := List.getElem?_eq_some_iff.1 hj
    simp only [List.length_map] at h1
    rw [List.getElem_map]
    have h2 := hid _ (List.getElem_mem h1)
    refine ⟨?_, by simp only [Item.below]; exact noIdR_below _ _ h2⟩
    simp only [Item.ren, renR_same p h2]
    exact hL j h1
end
/-! ### Renamings by hand -/
def p1 (a K x : Nat) : Nat := if x = a then K else x
theorem p1_at (a K : Nat) : p1 a K a = K := if_pos rfl
theorem p1_ne {a K x : Nat} (h : x ≠ a) : p1 a K x = x := if_neg h
theorem p1_inj {a K N : Nat} (hK : N ≤ K) : ∀ i j, i < N → j < N → p1 a K i = p1 a K j → i = j := by
  intro i j hi hj
  unfold p1
  split <;> split <;> omega
def p2 (a K a' K' x : Nat) : Nat := if x = a then K else if x = a' then K' else x
theorem p2_at (a K a' K' : Nat) : p2 a K a' K' a = K := if_pos rfl
theorem p2_at' {a K a' K' : Nat} (h : a' ≠ a) : p2 a K a' K' a' = K' := by unfold p2; rw [if_neg h, if_pos rfl]
theorem p2_ne {a K a' K' x : Nat} (h : x ≠ a) (h' : x ≠ a') : p2 a K a' K' x = x := by unfold p2; rw [if_neg h, if_neg h']
theorem p2_inj {a K a' K' N : Nat} (hK : N ≤ K) (hK' : N ≤ K') (hne : K ≠ K') : ∀ i j, i < N → j < N → p2 a K a' K' i = p2 a K a' K' j → i = j := by
  intro i j hi hj
  unfold p2
  (repeat' split) <;> omega
theorem lk_ne {α : Type} {j i : Nat} {v : α} {l : List (Nat × α)} (h : j ≠ i) : lk ((j, v) :: l) i = lk l i := by simp only [lk]; rw [if_neg h]
theorem lk_eq {α : Type} {i : Nat} {v : α} {l : List (Nat × α)} : lk ((i, v) :: l) i = some v := by simp [lk]
end Go.Fv

/-
  An owned row becomes data, wherever the state speaks of it.
-/
namespace Go.Fv
set_option linter.unusedSectionVars false
open Go.RowKit
set_option linter.unusedVariables false
set_option linter.unusedSimpArgs false
set_option linter.unnecessarySimpa false

mutual
def fz (k : Nat) (r : RowV) : AV → AV
  | .own i => if i = k then .ro r else .own i
  | .ptr i o => .ptr i o
  | .elt i a b c => .elt i a b c
  | .agg cs => .agg (fzL k r cs)
  | .tup cs => .tup (fzL k r cs)
  | .fn f cs => .fn f (fzL k r cs)
  | .cell cs => .cell cs
  | .dead => .dead
  | .nilS => .nilS
  | .bool b => .bool b
  | .int q n => .int q n
  | .str s => .str s
  | .ro r => .ro r
  | .raw v => .raw v
  | .opt b v => .opt b (fz k r v)
  | .mp ks vs => .mp ks vs
def fzL (k : Nat) (r : RowV) : List AV → List AV
  | [] => []
  | x :: l => fz k r x :: fzL k r l
end
def fzR (k : Nat) (q : RowV) : RowV → RowV
  | .objs sz l => .objs sz (l.map (fzL k q))
  | .bools l => .bools l
  | .ints k l => .ints k l
  | .strs l => .strs l
def fzI (k : Nat) (q : RowV) : Item → Item
  | .row e r => .row e (fzR k q r)
  | .box e cs => .box e (fzL k q cs)
  | .map ks vs => .map (fzL k q ks) (fzL k q vs)
  | .iter mp since seen => .iter mp since seen
def fzE (k : Nat) (q : RowV) : List (Nat × AV) → List (Nat × AV)
  | [] => []
  | (i, v) :: l => (i, fz k q v) :: fzE k q l
def fzRows (k : Nat) (q : RowV) : List (Nat × Item) → List (Nat × Item)
  | [] => []
  | (i, it) :: l => if i = k then fzRows k q l else (i, fzI k q it) :: fzRows k q l
def S.fz (s : S) (k : Nat) (r : RowV) : S := { s with env := fzE k r s.env, rows := fzRows k r s.rows }

theorem lk_fzE (k : Nat) (q : RowV) : ∀ (l : List (Nat × AV)) (i : Nat), lk (fzE k q l) i = (lk l i).map (fz k q)
  | [], i => rfl
  | (j, v) :: l, i => by
    simp only [fzE, lk]
    split
    · rfl
    · exact lk_fzE k q l i
theorem lk_fzRows (k : Nat) (q : RowV) : ∀ (l : List (Nat × Item)) (i : Nat), lk (fzRows k q l) i = if i = k then none else (lk l i).map (fzI k q)
  | [], i => by simp [fzRows, lk]
  | (j, v) :: l, i => by
    simp only [fzRows]
    split
    · rename_i e; subst e
      rw [lk_fzRows]
      by_cases h : i = j
      · simp [h]
      · simp only [if_neg h, lk]; rw [if_neg (fun e => h e.symm)]
    · rename_i e
      simp only [lk]
      split
      · rename_i e2; subst e2; rw [if_neg e]; rfl
      · exact lk_fzRows k q l i

mutual
theorem fz_below {k : Nat} {r : RowV} (n : Nat) : ∀ x : AV, below n x = true → below n (fz k r x) = true
  | .own i, h => by
    simp only [fz]; split
    · rfl
    · exact h
  | .ptr i o, h => h
  | .elt i a b c, h => h
  | .agg cs, h => by simp only [fz, below] at *; exact fzL_below n cs h
  | .tup cs, h => by simp only [fz, below] at *; exact fzL_below n cs h
  | .fn f cs, h => by simp only [fz, below] at *; exact fzL_below n cs h
  | .cell cs, _ => rfl
  | .dead, _ => rfl
  | .nilS, _ => rfl
  | .bool _, _ => rfl
  | .int _ _, _ => rfl
  | .str _, _ => rfl
  | .ro _, _ => rfl
  | .raw _, _ => rfl
  | .opt _ v, h => by simp only [fz, below] at *; exact fz_below n v h
  | .mp _ _, _ => rfl
theorem fzL_below {k : Nat} {r : RowV} (n : Nat) : ∀ x : List AV, belowL n x = true → belowL n (fzL k r x) = true
  | [], _ => rfl
  | x :: l, h => by
    simp only [belowL, Bool.and_eq_true] at h
    simp [fzL, belowL, fz_below n x h.1, fzL_below n l h.2]
end
mutual
theorem fz_noId {k : Nat} {r : RowV} : ∀ x : AV, noId x = true → fz k r x = x
  | .own i, h => by simp [noId] at h
  | .ptr i o, h => rfl
  | .elt i a b c, h => rfl
  | .agg cs, h => by simp only [fz]; rw [fzL_noId cs (by simpa [noId] using h)]
  | .tup cs, h => by simp only [fz]; rw [fzL_noId cs (by simpa [noId] using h)]
  | .fn f cs, h => by simp only [fz]; rw [fzL_noId cs (by simpa [noId] using h)]
  | .cell cs, _ => rfl
  | .dead, _ => rfl
  | .nilS, _ => rfl
  | .bool _, _ => rfl
  | .int _ _, _ => rfl
  | .str _, _ => rfl
  | .ro _, _ => rfl
  | .raw _, _ => rfl
  | .mp _ _, _ => rfl
  | .opt b v, h => by simp only [fz]; rw [fz_noId v (by simpa [noId] using h)]
theorem fzL_noId {k : Nat} {r : RowV} : ∀ x : List AV, noIdL x = true → fzL k r x = x
  | [], _ => rfl
  | x :: l, h => by
    simp only [noIdL, Bool.and_eq_true] at h
    simp only [fzL]; rw [fz_noId x h.1, fzL_noId l h.2]
end
mutual
theorem fz_low (k : Nat) (r : RowV) (b0 : Nat) (hb : b0 ≤ k) : ∀ x : AV, below b0 x = true → fz k r x = x
  | .own i, h => by
    simp only [below, decide_eq_true_eq] at h
    simp only [fz]; rw [if_neg (by omega)]
  | .ptr i o, h => rfl
  | .elt i a b c, h => rfl
  | .agg cs, h => by simp only [fz]; rw [fzL_low k r b0 hb cs (by simpa [below] using h)]
  | .tup cs, h => by simp only [fz]; rw [fzL_low k r b0 hb cs (by simpa [below] using h)]
  | .fn f cs, h => by simp only [fz]; rw [fzL_low k r b0 hb cs (by simpa [below] using h)]
  | .cell cs, _ => rfl
  | .dead, _ => rfl
  | .nilS, _ => rfl
  | .bool _, _ => rfl
  | .int _ _, _ => rfl
  | .str _, _ => rfl
  | .ro _, _ => rfl
  | .raw _, _ => rfl
  | .mp _ _, _ => rfl
  | .opt b v, h => by simp only [fz]; rw [fz_low k r b0 hb v (by simpa [below] using h)]
theorem fzL_low (k : Nat) (r : RowV) (b0 : Nat) (hb : b0 ≤ k) : ∀ x : List AV, belowL b0 x = true → fzL k r x = x
  | [], _ => rfl
  | x :: l, h => by
    simp only [belowL, Bool.and_eq_true] at h
    simp only [fzL]; rw [fz_low k r b0 hb x h.1, fzL_low k r b0 hb l h.2]
end
theorem fzLL_noId {k : Nat} {r : RowV} : ∀ l : List (List AV), l.all noIdL = true → l.map (fzL k r) = l
  | [], _ => rfl
  | x :: l, h => by
    simp only [List.all_cons, Bool.and_eq_true] at h
    rw [List.map_cons, fzL_noId x h.1, fzLL_noId l h.2]
theorem fzR_ok {k : Nat} {q : RowV} (r : RowV) [h : RowNoId r] : fzR k q r = r := by
  have := h.ok
  cases r <;> first | rfl | (simp only [fzR]; rw [fzLL_noId _ this])
structure CtxFz (k : Nat) (r : RowV) (c c' : Ctx) : Prop where
  n : c'.N = c.N
  m : c'.m = c.m
  t : ∀ b, c.T b → b < c.w.heap.size → c'.T b ∧ c'.w.heap[b]? = c.w.heap[b]?
  ro : Rv c' (.ro r) (c.m k)

mutual
theorem Rv.fz {k : Nat} {r : RowV} {c c' : Ctx} (h : CtxFz k r c c') : ∀ {x : AV} {v : Value}, Rv c x v → Rv c' (Fv.fz k r x) v
  | _, _, .dead v => .dead v
  | _, _, .nilS => .nilS
  | _, _, .bool b => .bool b
  | _, _, .int q n hk => .int q n hk
  | _, _, .str s hs => .str s hs
  | _, _, .roNil r hr hi => .roNil r (RowC.noid h.t hr hi) hi
  | _, _, .ro r a len cap cells hr hl hc hm hs hi => .ro r a len cap cells (RowC.noid h.t hr hi) hl hc hm (hs.mono' h.t) hi
  | _, _, .mp ks vs g es clock hk hv hb hc hT hh hi hi2 => .mp ks vs g es clock (RvT.noid h.t hk hi) (RvT.noid h.t hv hi2) hb hc (h.t g hT (Array.getElem?_eq_some_iff.1 hh).1).1 (by rw [(h.t g hT (Array.getElem?_eq_some_iff.1 hh).1).2]; exact hh) hi hi2
  | _, _, .own i hi h1 => by
    simp only [Fv.fz]
    split
    · rename_i e; subst e; exact h.ro
    · rw [← h.m]; exact .own i (by rw [h.n]; exact hi) (by rw [h.m]; exact h1)
  | _, _, .cell cs vs a hl hi hs => .cell cs vs a (RvL.noid h.t hl hi) hi (hs.mono' h.t)
  | _, _, .ptr i off g hi hg => .ptr i off g (by rw [h.n]; exact hi) (by rw [h.m]; exact hg)
  | _, _, .elt i a b d g hi hg => .elt i a b d g (by rw [h.n]; exact hi) (by rw [h.m]; exact hg)
  | _, _, .agg cs vs hl => .agg _ vs (RvL.fz h hl)
  | _, _, .tup cs vs hl => .tup _ vs (RvT.fz h hl)
  | _, _, .fn f cs vs hl => .fn f _ vs (RvT.fz h hl)
  | _, _, .raw v => .raw v
  | _, _, .opt b x v hb hx h2 => .opt b _ v (by rw [h.n]; exact fz_below _ _ hb) (fun e => Rv.fz h (hx e)) h2
theorem RvL.fz {k : Nat} {r : RowV} {c c' : Ctx} (h : CtxFz k r c c') : ∀ {x : List AV} {v : List Value}, RvL c x v → RvL c' (fzL k r x) v
  | _, _, .nil => .nil
  | _, _, .cons x v l vs hx h1 ht => .cons _ v _ vs (Rv.fz h hx) h1 (RvL.fz h ht)
theorem RvT.fz {k : Nat} {r : RowV} {c c' : Ctx} (h : CtxFz k r c c') : ∀ {x : List AV} {v : List Value}, RvT c x v → RvT c' (fzL k r x) v
  | _, _, .nil => .nil
  | _, _, .cons x v l vs hx ht => .cons _ v _ vs (Rv.fz h hx) (RvT.fz h ht)
end
theorem ObjsC.fz {k : Nat} {r : RowV} {c c' : Ctx} (h : CtxFz k r c c') : ∀ {sz : Nat} {x : List (List AV)} {v : List Value}, ObjsC c sz x v → ObjsC c' sz (x.map (fzL k r)) v
  | _, _, _, .nil sz => .nil sz
  | _, _, _, .cons sz o vs l cells ho hl ht => .cons sz _ vs _ cells (ho.fz h) hl (ht.fz h)
theorem RowC.fz {k : Nat} {q : RowV} {c c' : Ctx} (h : CtxFz k q c c') {x : RowV} {v : List Value} (hr : RowC c x v) : RowC c' (fzR k q x) v := by
  cases hr with
  | bools l => exact .bools l
  | ints k l hk => exact .ints k l hk
  | strs l hs => exact .strs l hs
  | objs sz l cells hz ho => exact .objs sz _ _ hz (ho.fz h)
theorem fzR_len (k : Nat) (q r : RowV) : (fzR k q r).len = r.len := by cases r <;> simp [fzR, RowV.len]
theorem fzR_sz (k : Nat) (q r : RowV) : (fzR k q r).sz = r.sz := by cases r <;> rfl
theorem ItemOk.fz {k : Nat} {q : RowV} {c c' : Ctx} (h : CtxFz k q c c') (hw : c'.w = c.w) {O : Nat → Prop} {v : Value} {it : Item} (hi : ItemOk c O v it) : ItemOk c' O v (fzI k q it) := by
  cases it with
  | row e r =>
    obtain ⟨n, cells, hr, hn, ho, hO⟩ := hi
    exact ⟨n, cells, hr.fz h, by rw [fzR_len]; exact hn, by rw [fzR_sz, hw]; exact ho, hO⟩
  | box e cs => obtain ⟨g, vs, rfl, hg, hl, hh⟩ := hi; exact ⟨g, vs, rfl, hg, hl.fz h, by rw [hw]; exact hh⟩
  | map ks vs => obtain ⟨g, es, clock, rfl, hg, h1, h2, h3, h4, hh⟩ := hi; exact ⟨g, es, clock, rfl, hg, h1.fz h, h2.fz h, h3, h4, by rw [hw]; exact hh⟩
  | iter mp since seen => obtain ⟨g, p, sn, last, rfl, hg, h1, h2, h3, h4, hh⟩ := hi; exact ⟨g, p, sn, last, rfl, hg, by rw [h.n]; exact h1, by rw [h.m]; exact h2, h3, h4, by rw [hw]; exact hh⟩
section
variable {w0 : World} {T0 : Bs} {b0 : Nat}
/-- AN OWNED ROW BECOMES DATA. -/
theorem Ent.fz (k : Nat) {s : S} {e : TypeId} {r : RowV} (hk : lk s.rows k = some (.row e r)) (hid : noIdR r = true) (hb : b0 ≤ k) : Ent w0 T0 b0 s (s.fz k r) := by
  rintro H a w hH ⟨m, hm⟩
  have hsub : ∀ i it, lk (s.fz k r).rows i = some it → i ≠ k ∧ ∃ jt, lk s.rows i = some jt ∧ it = fzI k r jt := by
    intro i it hi
    simp only [S.fz, lk_fzRows] at hi
    split at hi
    · cases hi
    · rename_i hne
      cases hq : lk s.rows i with
      | none => rw [hq] at hi; cases hi
      | some jt => rw [hq] at hi; cases hi; exact ⟨hne, jt, rfl, rfl⟩
  have hdel : ∀ i it, lk (del s.rows k) i = some it → lk s.rows i = some it := del_sub _ _
  have hro := own_ro hm hk hdel (by rw [lk_del, if_pos rfl]) hid
  have hT : ∀ b, allow T0 w0.heap.size m (del s.rows k) b → allow T0 w0.heap.size m (s.fz k r).rows b := by
    rintro b ⟨h1, h2⟩
    refine ⟨h1, fun i it hi e => ?_⟩
    obtain ⟨hne, jt, hj, _⟩ := hsub i it hi
    exact h2 i jt (by rw [lk_del, if_neg hne]; exact hj) e
  have hc : CtxFz k r (ctxOf T0 w0.heap.size m s w) (ctxOf T0 w0.heap.size m (s.fz k r) w) :=
    { n := rfl, m := rfl,
      t := by
        intro b ⟨h1, h2⟩ _
        exact ⟨hT b ⟨h1, fun i it hi => h2 i it (hdel i it hi)⟩, rfl⟩,
      ro := by
        refine Rv.noid (c := ctxOf T0 w0.heap.size m { s with rows := del s.rows k } w) ?_ hro rfl
        intro b hb _
        exact ⟨hT b hb, rfl⟩ }
  refine ⟨m, { size := hm.size, nodef := hm.nodef, below := hm.below, env := ?_, held := ?_, rows := ?_, sep := ?_ }⟩
  · intro q v hv
    simp only [S.fz, lk_fzE] at hv
    cases hq : lk s.env q with
    | none => rw [hq] at hv; cases hv
    | some y => rw [hq] at hv; cases hv; exact (hm.env q y hq).fz hc
  · intro p hp
    have h1 := (hm.held p hp).fz hc
    have h2 : Fv.fz k r p.1 = p.1 := by
      have hlow := hH p hp
      exact fz_low k r b0 hb p.1 hlow
    rwa [h2] at h1
  · intro i it hi
    obtain ⟨hne, jt, hj, rfl⟩ := hsub i it hi
    exact ⟨(hm.rows i jt hj).1, (hm.rows i jt hj).2.fz hc rfl⟩
  · intro i j it jt b hi hj hbi hbj
    obtain ⟨_, it', hi', _⟩ := hsub i it hi
    obtain ⟨_, jt', hj', _⟩ := hsub j jt hj
    exact hm.sep i j it' jt' b hi' hj' hbi hbj
end
attribute [go_sem] fz fzL fzR fzI fzE fzRows S.fz
end Go.Fv

/-
  The set by which states are held against one another.
-/
namespace Go.Fv
set_option linter.unusedSectionVars false
theorem renL_rep (p : Nat → Nat) (x : AV) : ∀ n : Nat, renL p (List.replicate n x) = List.replicate n (ren p x)
  | 0 => rfl
  | n + 1 => by simp only [List.replicate_succ, renL]; rw [renL_rep p x n]
theorem belowL_rep {N : Nat} {x : AV} (h : below N x = true) : ∀ n : Nat, belowL N (List.replicate n x) = true
  | 0 => rfl
  | n + 1 => by simp only [List.replicate_succ, belowL, h, Bool.true_and]; exact belowL_rep h n
theorem noIdL_rep {x : AV} (h : noId x = true) : ∀ n : Nat, noIdL (List.replicate n x) = true
  | 0 => rfl
  | n + 1 => by simp only [List.replicate_succ, noIdL, h, Bool.true_and]; exact noIdL_rep h n
theorem mkL_rep {x : AV} (h : noId x = true) (n : Nat) (y : List AV) : mkL (List.replicate n x) y = [] := mkL_noId _ y (noIdL_rep h n)
theorem belowL_repb (N n : Nat) (b : Bool) : belowL N (List.replicate n (AV.bool b)) = true := belowL_rep rfl n
theorem mkL_repb (n : Nat) (b : Bool) (y : List AV) : mkL (List.replicate n (AV.bool b)) y = [] := mkL_rep rfl n y
attribute [go_sem] mkR_ok mkL_caps mkL_bools rets rets1 retV mkRet tupOf envOk subOk mkRen mkEnv mkRows mkItem mkV mkL pm Item.below AV.own.injEq AV.str.injEq AV.ro.injEq AV.agg.injEq AV.tup.injEq List.cons.injEq Option.some.injEq Item.row.injEq Item.box.injEq RowV.ints.injEq RowV.bools.injEq RowV.strs.injEq RowV.objs.injEq Nat.succ_ne_self renL_rep belowL_repb mkL_repb fzR_ok
end Go.Fv

/-
  Steps of a walk that pay their side conditions by themselves.
-/
namespace Go.Fv
set_option linter.unusedSectionVars false
set_option linter.unusedVariables false
theorem Chk.g {p K : Prop} (k : K) (h : p := by first | omega | (with_reducible refine Chk.intro ?_ ?_ <;> omega) | (simp; done) | (simp; omega)) : Chk p K := ⟨h, k⟩
theorem LetW.g {e : Int} {K : Int → Prop} (kk : K e) (h1 : -9223372036854775808 ≤ e := by omega) (h2 : e ≤ 9223372036854775807 := by omega) : LetW .i64 e K := LetW.i64 h1 h2 kk
theorem LetW.h {e : Int} {K : Int → Prop} (kk : K e) (h1 : 0 ≤ e := by omega) (h2 : e ≤ 255 := by omega) : LetW .u8 e K := LetW.u8 h1 h2 kk
theorem Ite.t {p : Prop} [Decidable p] {x y : Prop} (k : p → x) (h : ¬ p → False := by (intro _; omega)) : @Ite (Decidable.decide p) ⟨x⟩ ⟨y⟩ := Ite.decide k fun h' => (h h').elim
theorem Ite.f {p : Prop} [Decidable p] {x y : Prop} (k : ¬ p → y) (h : p → False := by (intro _; omega)) : @Ite (Decidable.decide p) ⟨x⟩ ⟨y⟩ := Ite.decide (fun h' => (h h').elim) k
end Go.Fv

/-
  What stands for families where they are lent; the end of a function whose results are only read.
-/
namespace Go.Fv
set_option linter.unusedSectionVars false
open Go.RowKit
set_option linter.unusedVariables false
set_option linter.unusedSimpArgs false

theorem allOkL_get {R : AV → AV → Prop} : ∀ {l l' : List (List AV)}, l.length = l'.length → (∀ j (h : j < l.length) (h' : j < l'.length), allOk R l[j] l'[j]) → allOkL R l l'
  | [], [], _, _ => rfl
  | [], _ :: _, h, _ => by simp at h
  | _ :: _, [], h, _ => by simp at h
  | x :: l, y :: l', h, hr => ⟨y, l', hr 0 (by simp) (by simp), allOkL_get (by simpa using h) fun j h1 h2 => hr (j + 1) (Nat.succ_lt_succ h1) (Nat.succ_lt_succ h2), rfl⟩
theorem argOkN_row {rows : List (Nat × Item)} {n i : Nat} {e : TypeId} {r : RowV} (h : lk rows i = some (.row e r)) (hid : noIdR r = true) : argOkN rows (n + 1) (.own i) (.ro r) := by
  simp only [argOkN, h, hid, if_true]
theorem argOkN_objs {rows : List (Nat × Item)} {n i : Nat} {e : TypeId} {sz : Nat} {l l' : List (List AV)} (h : lk rows i = some (.row e (.objs sz l))) (h1 : allOkL (argOkN rows n) l l') (h2 : noIdR (.objs sz l) = true → l' = l) : argOkN rows (n + 1) (.own i) (.ro (.objs sz l')) := by
  simp only [argOkN, h]
  split
  · rename_i hid; rw [h2 hid]
  · exact ⟨l', h1, rfl⟩
section
variable {P : Program} {w0 : World} {T0 : Bs}
/-- THE END of a function whose results are only read from now on. -/
theorem Ret.ro {res : List ResultVar} {out : AV} {s : S} (h : rets P s res (fun vs => outOk s.rows (tupOf vs) out)) : Ret P w0 T0 res out [] s := by
  rintro a w ⟨m, hm⟩
  obtain ⟨vs, us, he, hrun, hvs⟩ := rets_run hm h
  have hrv : Rv (ctxOf T0 w0.heap.size m s w) (tupOf vs) (tupV us) := by
    cases hvs with
    | nil => exact .tup _ _ .nil
    | cons x v l us hx ht =>
      cases ht with
      | nil => exact hx
      | cons x' v' l' us' hx' ht' => exact .tup _ _ (.cons _ _ _ _ hx (.cons _ _ _ _ hx' ht'))
  have hal : ∀ b, ownB T0 w0.heap.size b → allow T0 w0.heap.size (fun _ => undef) [] b := fun b hb => ⟨hb.imp id (·.2), fun i it hi => by simp [lk] at hi⟩
  have hl : Lend w (ctxOf T0 w0.heap.size m s w) s.rows (allow T0 w0.heap.size (fun _ => undef) []) :=
    { hw := rfl, t := fun b hb => ⟨hb.1, fun i it hi => by simp [lk] at hi⟩,
      own := fun i e r hi => by
        obtain ⟨n, cells, hc, hn, hq, hO⟩ := (hm.rows i _ hi).2
        exact ⟨fun b hb => hal b (hO b hb), n, cells, hc, hn, hq⟩,
      box := fun i e cs hi => by
        obtain ⟨g, vs, hv, hg, hl, hh⟩ := (hm.rows i _ hi).2
        exact ⟨g, vs, hv, hal g hg, hl, hh⟩,
      map := fun i ks vs hi => by
        obtain ⟨g, es, clock, hv, hg, h1, h2, h3, h4, hh⟩ := (hm.rows i _ hi).2
        exact ⟨g, es, clock, hv, hal g hg, h1, h2, h3, h4, hh⟩ }
  refine ⟨_, fun fn hf => results_list hf a.tmps hrun, fun _ => undef, 0, ?_, fun i it hi => by simp [lk] at hi, fun i j it jt b hi => by simp [lk] at hi⟩
  generalize tupOf vs = x at he hrv
  generalize hus : tupV us = u at hrv
  unfold outOk at he
  split at he
  · obtain ⟨l', ha, rfl⟩ := he
    cases hrv with
    | tup _ us' hv' => exact .tup _ _ (argOkT_rv hl _ ha hv')
  · exact argOkN_rv hl 6 _ he hrv
end
end Go.Fv

/-
  A family of owned rows becomes data: rows of rows that are done.
-/
namespace Go.Fv
set_option linter.unusedSectionVars false
set_option linter.unusedVariables false
def fo : Nat → AV → List AV := fun _ v => [v]
theorem fo_get (b n : Nat) {k : Nat} (h : k < n) : (famO fo b n).getD k [] = [.own (k + b)] := by
  rw [List.getD_eq_getElem?_getD, famO_get h]; rfl
theorem ren_fo_low {p : Nat → Nat} {b n : Nat} (h : ∀ i, i < n → p (i + b) = i + b) : (famO fo b n).map (renL p) = famO fo b n := by
  unfold famO
  rw [List.map_map]
  refine List.map_congr_left fun i hi => ?_
  have := h i (List.mem_range.1 hi)
  simp [fo, renL, ren, this]
theorem ren_fo_set {b n k K : Nat} (h : k < n) : (famO fo b n).map (renL (p1 (k + b) K)) = (famO fo b n).set k [.own K] := by
  apply List.ext_getElem?
  intro i
  rw [List.getElem?_map, List.getElem?_set]
  by_cases hi : i < n
  · rw [famO_get hi]
    by_cases e : k = i
    · subst e; rw [if_pos rfl, if_pos (by rw [famO_len]; exact h)]; simp [fo, renL, ren, p1]
    · rw [if_neg e]; simp [fo, renL, ren, p1]; omega
  · have e : ¬ k = i := by omega
    rw [if_neg e, List.getElem?_eq_none (by rw [famO_len]; omega)]
    rfl
theorem ren_fo_snoc {p : Nat → Nat} {b n K : Nat} (h : ∀ i, i < n → p (i + b) = i + b) (hK : p (n + b) = K) : (famO fo b (n + 1)).map (renL p) = famO fo b n ++ [[.own K]] := by
  rw [famO_succ, List.map_append, ren_fo_low h]
  simp [fo, renL, ren, hK]
theorem below_fo {b n N : Nat} (h : n + b ≤ N) : (famO fo b n).all (belowL N) = true := by
  rw [List.all_eq_true]
  intro x hx
  unfold famO at hx
  obtain ⟨i, hi, rfl⟩ := List.mem_map.1 hx
  have := List.mem_range.1 hi
  simp [fo, belowL, Fv.below]; omega
theorem noId_fo {b n : Nat} (h : 0 < n) : noIdR (.objs 1 (famO fo b n)) = false := by
  simp only [noIdR, famO, List.all_map]
  rw [List.all_eq_false]
  exact ⟨0, by simp [h], by simp [fo, noIdL, noId]⟩
theorem put_fam_out : ∀ (L : List Item) (b i : Nat) (x : Item), L.length + b ≤ i → put (famI b L) i x = famI b L
  | [], _, _, _, _ => rfl
  | y :: L, b, i, x, h => by
    rw [List.length_cons] at h
    simp only [famI, put]
    rw [if_neg (by omega), put_fam_out L (b + 1) i x (by omega)]
theorem ren_id : ∀ x : AV, ren id x = x := fun x => by
  have hb : ∃ n, below n x = true := below_ex x
  obtain ⟨n, hn⟩ := hb
  exact ren_low (b0 := n) (fun _ _ => rfl) x hn
where
  below_ex : ∀ x : AV, ∃ n, below n x = true := fun x => belowEx x
  belowEx : ∀ x : AV, ∃ n, below n x = true
    | .own i => ⟨i + 1, by simp [below]⟩
    | .ptr i _ => ⟨i + 1, by simp [below]⟩
    | .elt i _ _ _ => ⟨i + 1, by simp [below]⟩
    | .agg cs => belowExL cs
    | .tup cs => belowExL cs
    | .fn _ cs => belowExL cs
    | .cell _ => ⟨0, rfl⟩
    | .dead => ⟨0, rfl⟩
    | .nilS => ⟨0, rfl⟩
    | .bool _ => ⟨0, rfl⟩
    | .int _ _ => ⟨0, rfl⟩
    | .str _ => ⟨0, rfl⟩
    | .ro _ => ⟨0, rfl⟩
    | .raw _ => ⟨0, rfl⟩
    | .opt _ v => belowEx v
    | .mp _ _ => ⟨0, rfl⟩
  belowExL : ∀ l : List AV, ∃ n, belowL n l = true
    | [] => ⟨0, rfl⟩
    | x :: l => by
      obtain ⟨a, ha⟩ := belowEx x
      obtain ⟨c, hc⟩ := belowExL l
      exact ⟨max a c, by simp only [belowL]; rw [below_le (Nat.le_max_left a c) x ha, belowL_le (Nat.le_max_right a c) l hc]; rfl⟩
theorem envOk_of {p : Nat → Nat} {s : S} {N : Nat} : ∀ {l : List (Nat × AV)}, (∀ x, x ∈ l → s.get x.1 = ren p x.2 ∧ Fv.below N x.2 = true) → envOk p s N l
  | [], _ => trivial
  | (r, v) :: l, h => ⟨h (r, v) (.head _), envOk_of fun x hx => h x (.tail _ hx)⟩
theorem subP_of {p : Nat → Nat} {rows : List (Nat × Item)} {N : Nat} : ∀ {l : List (Nat × Item)}, (∀ x, x ∈ l → lk rows (p x.1) = some (x.2.ren p) ∧ x.2.below N = true) → subP p rows N l
  | [], _ => trivial
  | (r, v) :: l, h => ⟨h (r, v) (.head _), subP_of fun x hx => h x (.tail _ hx)⟩
/-- What has no names from b on does not see the freezing of one. -/
theorem fzI_low (k : Nat) (q : RowV) (b : Nat) (hb : b ≤ k) (it : Item) (h : it.below b = true) : fzI k q it = it := by
  cases it with
  | row e r =>
    cases r with
    | objs sz l =>
      simp only [fzI, fzR]
      congr 2
      conv => rhs; rw [← List.map_id l]
      refine List.map_congr_left fun x hx => fzL_low k q b hb x ?_
      simp only [Item.below, belowR, List.all_eq_true] at h
      exact h x hx
    | _ => rfl
  | box e cs => simp only [fzI]; rw [fzL_low k q b hb cs h]
  | map ks vs =>
    simp only [Item.below, Bool.and_eq_true] at h
    simp only [fzI]; rw [fzL_low k q b hb ks h.1, fzL_low k q b hb vs h.2]
  | iter _ _ _ => rfl
theorem Item.ren_id' {n : Nat} (it : Item) (h : it.below n = true) : it.ren id = it := Item.ren_low (b0 := n) (fun _ _ => rfl) it h
theorem fz_fo {b m : Nat} {q : RowV} (D : List (List AV)) (hD : D.all noIdL = true) : (famO fo b (m + 1) ++ D).map (fzL (m + b) q) = famO fo b m ++ [.ro q] :: D := by
  rw [List.map_append, fzLL_noId D hD, famO_succ, List.map_append]
  have e1 : (famO fo b m).map (fzL (m + b) q) = famO fo b m := by
    conv => rhs; rw [← List.map_id (famO fo b m)]
    refine List.map_congr_left fun x hx => ?_
    unfold famO at hx
    obtain ⟨i, hi, rfl⟩ := List.mem_map.1 hx
    have := List.mem_range.1 hi
    simp only [fo, fzL, Fv.fz, id]
    rw [if_neg (by omega)]
  rw [e1]
  simp [fo, fzL, Fv.fz]
def roD (rs : List RowV) : List (List AV) := rs.map fun r => [.ro r]
section
variable {w0 : World} {T0 : Bs} {b0 : Nat}
theorem Ent.fzStep {n b c0 m : Nat} {e e2 : TypeId} {rs : List RowV} {C : List (Nat × Item)} {env : List (Nat × AV)} {D : List (List AV)} (hD : D.all noIdL = true) (hb0 : b0 ≤ b) (hm : rs.length = m + 1) (q : RowV) (hq : rs[m]? = some q) (hid : ∀ r, r ∈ rs → noIdR r = true)
    (henv : ∀ x, x ∈ env → lk env x.1 = some x.2 ∧ Fv.below b x.2 = true) (hc0 : c0 < b) (hC : ∀ x, x ∈ C → x.1 < b ∧ x.1 ≠ c0 ∧ lk C x.1 = some x.2 ∧ x.2.below b = true) :
    Ent w0 T0 b0 ⟨n, env, (c0, .row e (.objs 1 (famO fo b (m + 1) ++ D))) :: (C ++ famI b (rs.map (Item.row e2))), rs.length + b⟩
      ⟨n, env, (c0, .row e (.objs 1 (famO fo b m ++ [.ro q] :: D))) :: (C ++ famI b ((rs.take m).map (Item.row e2))), m + b⟩ := by
  have hqid : noIdR q = true := hid q (List.mem_of_getElem? hq)
  have hlkC : ∀ x, x ∈ C → ∀ R, lk ((c0, R) :: (C ++ famI b (rs.map (Item.row e2)))) x.1 = some x.2 := fun x hx R => by
    obtain ⟨_, h2, h3, _⟩ := hC x hx
    rw [lk_ne (fun e => h2 e.symm), lk_append, h3]
  have hlkF : ∀ j (hj : j < rs.length) R, lk ((c0, R) :: (C ++ famI b (rs.map (Item.row e2)))) (j + b) = some (.row e2 rs[j]) := fun j hj R => by
    rw [lk_ne (by omega), lk_append]
    cases hx : lk C (j + b) with
    | some y => have := (hC _ (lk_mem hx)).1; simp only at this; omega
    | none => exact lk_fam (by simp [hj])
  have hqm : rs[m] = q := by rw [List.getElem?_eq_getElem (by omega)] at hq; exact Option.some.inj hq
  refine Ent.trans (Ent.fz (m + b) (e := e2) (r := q) (by rw [hlkF m (by omega), hqm]) hqid (by omega)) ?_
  have hN : m + b = (rs.take m).length + b := by rw [List.length_take]; omega
  refine Ent.famR (C := (c0, .row e (.objs 1 (famO fo b m ++ [.ro q] :: D))) :: C) id hN rfl (by omega) (fun _ _ => rfl) ?_ ?_ ?_ ?_ ?_ (fun _ _ _ _ h => h)
  · intro x hx
    rcases List.mem_cons.1 hx with rfl | hx
    · exact hc0
    · exact (hC x hx).1
  · refine envOk_of fun x hx => ?_
    obtain ⟨h1, h2⟩ := henv x hx
    refine ⟨?_, below_le (by omega) _ h2⟩
    simp only [S.get, S.fz, lk_fzE, h1, Option.map_some]
    rw [fz_low (m + b) q b (by omega) _ h2, ren_id]
  · refine subP_of fun x hx => ?_
    rcases List.mem_cons.1 hx with rfl | hx
    · refine ⟨?_, ?_⟩
      · simp only [S.fz, lk_fzRows, id]
        rw [if_neg (by omega), lk_eq, Option.map_some]
        have hb : (Item.row e (.objs 1 (famO fo b m ++ [.ro q] :: D))).below (m + b) = true := by
          simp only [Item.below, belowR, List.all_append, List.all_cons, Bool.and_eq_true]
          refine ⟨below_fo (Nat.le_refl _), by simp [belowL, Fv.below], ?_⟩
          rw [List.all_eq_true] at hD ⊢
          exact fun y hy => noIdL_below _ _ (hD y hy)
        rw [Item.ren_id' _ hb]
        simp only [fzI, fzR]
        rw [fz_fo D hD]
      · simp only [Item.below, belowR, List.all_append, List.all_cons, Bool.and_eq_true]
        refine ⟨below_fo (by omega), by simp [belowL, Fv.below], ?_⟩
        rw [List.all_eq_true] at hD ⊢
        exact fun y hy => noIdL_below _ _ (hD y hy)
    · obtain ⟨h1, h2, h3, h4⟩ := hC x hx
      refine ⟨?_, ?_⟩
      · simp only [S.fz, lk_fzRows, id]
        rw [if_neg (by omega), hlkC x hx, Option.map_some, fzI_low (m + b) q b (by omega) _ h4, Item.ren_id' _ h4]
      · cases hx2 : x.2 with
        | row e' r => rw [hx2] at h4; exact belowR_le (by omega) r h4
        | box e' cs => rw [hx2] at h4; exact belowL_le (by omega) cs h4
        | map ks vs => rw [hx2] at h4; simp only [Item.below, Bool.and_eq_true] at h4 ⊢; exact ⟨belowL_le (by omega) ks h4.1, belowL_le (by omega) vs h4.2⟩
        | iter a' b' c' => rw [hx2] at h4; simp only [Item.below, decide_eq_true_eq] at h4 ⊢; omega
  · exact fun r hr => hid r (List.mem_of_mem_take hr)
  · intro j hj
    rw [List.length_take] at hj
    simp only [S.fz, lk_fzRows, id]
    rw [if_neg (by omega), hlkF j (by omega), Option.map_some, List.getElem_take]
    have h1 := hid rs[j] (List.getElem_mem _)
    simp only [fzI]
    haveI : RowNoId rs[j] := ⟨h1⟩
    rw [fzR_ok]
/-- THE FAMILY IS DONE: all its rows become data. -/
theorem Ent.fzFam {n b c0 : Nat} {e e2 : TypeId} {C : List (Nat × Item)} {env : List (Nat × AV)} (hb0 : b0 ≤ b)
    (henv : ∀ x, x ∈ env → lk env x.1 = some x.2 ∧ Fv.below b x.2 = true) (hc0 : c0 < b) (hC : ∀ x, x ∈ C → x.1 < b ∧ x.1 ≠ c0 ∧ lk C x.1 = some x.2 ∧ x.2.below b = true) :
    ∀ (m : Nat) (rs : List RowV) (D : List (List AV)), rs.length = m → (∀ r, r ∈ rs → noIdR r = true) → D.all noIdL = true →
    Ent w0 T0 b0 ⟨n, env, (c0, .row e (.objs 1 (famO fo b m ++ D))) :: (C ++ famI b (rs.map (Item.row e2))), m + b⟩
      ⟨n, env, (c0, .row e (.objs 1 (roD rs ++ D))) :: C, b⟩
  | 0, rs, D, hm, _, _ => by
    have : rs = [] := List.eq_nil_of_length_eq_zero hm
    subst this
    simp only [roD, List.map_nil, famI, List.append_nil, famO, List.range_zero, List.nil_append, Nat.zero_add]
    exact Ent.refl _
  | m + 1, rs, D, hm, hid, hD => by
    have hlt : m < rs.length := by omega
    have hstep := Ent.fzStep (w0 := w0) (T0 := T0) (b0 := b0) (n := n) (e := e) (e2 := e2) (rs := rs) (C := C) (env := env) (D := D) hD hb0 hm rs[m] (by simp) hid henv hc0 hC
    rw [hm] at hstep
    refine hstep.trans ?_
    have ih := Ent.fzFam (n := n) (e := e) (e2 := e2) hb0 henv hc0 hC m (rs.take m) ([.ro rs[m]] :: D) (by rw [List.length_take]; omega) (fun r hr => hid r (List.mem_of_mem_take hr)) (by
      simp only [List.all_cons, Bool.and_eq_true]; exact ⟨by simp [noIdL, noId], hD⟩)
    have e0 : roD rs = roD (rs.take m) ++ [[.ro rs[m]]] := by
      have e2 : rs = rs.take m ++ [rs[m]] := by rw [← List.take_succ_eq_append_getElem hlt, List.take_of_length_le (by omega)]
      conv => lhs; rw [e2]
      simp only [roD, List.map_append, List.map_cons, List.map_nil]
    have e1 : roD (rs.take m) ++ [.ro rs[m]] :: D = roD rs ++ D := by
      rw [e0, List.append_assoc]; rfl
    rw [e1] at ih
    exact ih
end
end Go.Fv
