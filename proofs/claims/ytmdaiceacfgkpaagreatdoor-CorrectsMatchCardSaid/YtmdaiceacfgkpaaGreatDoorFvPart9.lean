/-
  A part of the proof of the claim: walks over the program's functions and the plain laws that these need. No condition of its own.
-/
import Derived.Test.YtmdaiceacfgkpaaGreatDoorFvPart8
import Derived.Test.YtmdaiceacfgkpaaGreatDoorFvPart7
namespace Go.Fv
set_option linter.unusedSectionVars false
open Go.RowKit
set_option linter.unusedVariables false
set_option linter.unusedSimpArgs false
set_option linter.unnecessarySimpa false

section
variable {P : Program} {w0 : World} {T0 : Bs} {ops : Array Oper} {es : List Nat} {tb : List (Nat × List Nat)} {T : List Nat} [hG : GlB P w0 T0]

structure LexEnd (P : Program) (w0 : World) (T0 : Bs) (ops : Array Oper) (es : List Nat) (tb : List (Nat × List Nat)) (s0 : S) (hs0 : List HpS) (Q : S → Prop) (vs : List AV) (hs : List HpS) (s : S) : Prop where
  q : Q s
  n : s.n = s0.n
  len : hs.length = ownN es ops.size + 1
  last : hs[ownN es ops.size]? = some (s.rows, s.next)
  get : ∀ r, s.get r = lexG ops s0 vs ops.size r
  done : LexDone P w0 T0 ops es s0 ops.size vs hs
  re : ∀ (j : Nat) (o : Oper), ops[j]? = some o → es.elem j = false → ∀ k, k ∈ ksOf tb j → ∀ h, hs[k]? = some h → QS P w0 T0 ops o s0.n (lexG ops s0 vs j) h h (vs.getD j .dead)
  pre : ∀ (k : Nat) (h : HpS), hs0[k]? = some h → hs[k]? = some h

theorem LexRe.step {s0 : S} {i : Nat} {vs : List AV} {v : AV} {acc acc' : List Acc} {o : Oper} (hre : LexRe P w0 T0 ops es tb s0 i vs acc) (hlen : vs.length = i) (hi : ops[i]? = some o) (hsub : ∀ x, x ∈ acc → x ∈ acc')
    (hnew : es.elem i = false → ∀ k, k ∈ ksOf tb i → (∀ h, QS P w0 T0 ops o s0.n (lexG ops s0 vs i) h h v) ∨ ∃ x, x ∈ acc' ∧ x.ks = ksOf tb i ∧ ∀ h, redoC P w0 T0 s0.n x h → QS P w0 T0 ops o s0.n (lexG ops s0 vs i) h h v) :
    LexRe P w0 T0 ops es tb s0 (i + 1) (vs ++ [v]) acc' := by
  intro j oj hj hoj hej k hk
  by_cases e : j = i
  · subst e
    rw [hi] at hoj; cases hoj
    have hv : (vs ++ [v]).getD j .dead = v := by rw [← hlen]; exact getD_app_last
    rcases hnew hej k hk with h | ⟨x, hx, hks, h⟩
    · exact .inl fun h' => by rw [hv]; exact (h h').congr fun r _ => lexG_app (by omega) r
    · exact .inr ⟨x, hx, hks, fun h' hc => by rw [hv]; exact (h h' hc).congr fun r _ => lexG_app (by omega) r⟩
  · rcases hre j oj (by omega) hoj hej k hk with h | ⟨x, hx, hks, h⟩
    · exact .inl fun h' => by rw [getD_app (by omega)]; exact (h h').congr fun r _ => lexG_app (by omega) r
    · exact .inr ⟨x, hsub x hx, hks, fun h' hc => by rw [getD_app (by omega)]; exact (h h' hc).congr fun r _ => lexG_app (by omega) r⟩

theorem vcLex_ext (hok : LexOk ops es tb T) {s0 : S} : ∀ (l : List Oper) (i : Nat) (acc : List Acc) (hs : List HpS) (s : S) (vs : List AV) (Q : S → Prop), ops.toList.drop i = l → i ≤ ops.size → vs.length = i → hs.length = ownN es i + 1 → hs[ownN es i]? = some (s.rows, s.next) → s.n = s0.n →
    (∀ r, s.get r = lexG ops s0 vs i r) → LexDone P w0 T0 ops es s0 i vs hs → LexRe P w0 T0 ops es tb s0 i vs acc → vcLex P w0 T0 ops es tb l i acc hs s Q → ∃ vs' hs' sf, LexEnd P w0 T0 ops es tb s0 hs Q vs' hs' sf := by
  intro l
  induction l with
  | nil =>
    intro i acc hs s vs Q hdr hile hlen hhl hcur hn hget hd hre h
    have hi : i = ops.size := by
      have := List.drop_eq_nil_iff.1 hdr
      simp at this; omega
    subst hi
    obtain ⟨hredo, hq⟩ := h
    refine ⟨vs, hs, s, hq, hn, hhl, hcur, hget, hd, ?_, fun _ _ h => h⟩
    intro j o hj he k hk h hh
    rcases hre j o (Array.getElem?_eq_some_iff.1 hj).1 hj he k hk with h0 | ⟨x, hx, hks, h0⟩
    · exact h0 h
    · obtain ⟨h', hh', hc⟩ := redo_spec _ hredo x hx k (by rw [hks]; exact hk)
      rw [hh] at hh'; cases hh'
      rw [hn] at hc
      exact h0 h hc
  | cons o l ih =>
    intro i acc hs s vs Q hdr hile hlen hhl hcur hn hget hd hre h
    have hi : ops[i]? = some o := by
      have h1 : (ops.toList.drop i)[0]? = some o := by rw [hdr]; rfl
      rw [List.getElem?_drop] at h1
      simpa using h1
    have hilt : i < ops.size := (Array.getElem?_eq_some_iff.1 hi).1
    have hdr' : ops.toList.drop (i + 1) = l := by
      have : (ops.toList.drop i).drop 1 = l := by rw [hdr]; rfl
      rwa [List.drop_drop] at this
    have hrd := hok.reads i o hi
    have hgetQ : ∀ {h h' : HpS} {v : AV}, QS P w0 T0 ops o s.n s.get h h' v → QS P w0 T0 ops o s0.n (lexG ops s0 vs i) h h' v := by
      intro h h' v hq
      rw [← hn]
      exact hq.congr fun r _ => (hget r).symm
    have hown1 : es.elem i = false → ownN es (i + 1) = ownN es i := fun e => by rw [ownN_succ, e]; rfl
    have hown2 : es.elem i = true → ownN es (i + 1) = ownN es i + 1 := fun e => by rw [ownN_succ, e]; rfl
    -- a quiet operation
    have quiet : es.elem i = false → ∀ (v : AV) (acc' : List Acc), (∀ x, x ∈ acc → x ∈ acc') → QS P w0 T0 ops o s.n s.get (s.rows, s.next) (s.rows, s.next) v →
        (∀ k, k ∈ ksOf tb i → (∀ h, QS P w0 T0 ops o s.n s.get h h v) ∨ ∃ x, x ∈ acc' ∧ x.ks = ksOf tb i ∧ ∀ h, redoC P w0 T0 s0.n x h → QS P w0 T0 ops o s.n s.get h h v) →
        vcPut o.dst v s (fun s' => vcLex P w0 T0 ops es tb l (i + 1) acc' hs s' Q) → ∃ vs' hs' sf, LexEnd P w0 T0 ops es tb s0 hs Q vs' hs' sf := by
      intro he v acc' hsub hqs hnew hput
      obtain ⟨s', hk, hn', hr', hx', hg', hd'⟩ := lex_put hok hi hlen hn hget hd hhl (fun _ _ h => h) (fun _ => ⟨_, hcur, hgetQ hqs⟩) (fun e => by rw [he] at e; cases e) hput
      refine ih (i + 1) acc' hs s' (vs ++ [v]) Q hdr' hilt (by simp [hlen]) (by rw [hown1 he]; exact hhl) (by rw [hown1 he, hr', hx']; exact hcur) hn' hg' hd' ?_ hk
      refine hre.step hlen hi hsub fun _ k hk => ?_
      rcases hnew k hk with h0 | ⟨x, hx, hks, h0⟩
      · exact .inl fun h => hgetQ (h0 h)
      · exact .inr ⟨x, hx, hks, fun h hc => hgetQ (h0 h hc)⟩
    have eff : es.elem i = true → ∀ (v : AV) (R : List (Nat × Item)) (N : Nat), QS P w0 T0 ops o s.n s.get (s.rows, s.next) (R, N) v →
        vcPut o.dst v { s with rows := R, next := N } (fun s' => vcLex P w0 T0 ops es tb l (i + 1) acc (hs ++ [(R, N)]) s' Q) → ∃ vs' hs' sf, LexEnd P w0 T0 ops es tb s0 hs Q vs' hs' sf := by
      intro he v R N hqs hput
      have hpre : ∀ (k : Nat) (h : HpS), hs[k]? = some h → (hs ++ [(R, N)])[k]? = some h := by
        intro k h hk
        rw [List.getElem?_append_left (List.getElem?_eq_some_iff.1 hk).1]; exact hk
      have hlast : (hs ++ [(R, N)])[ownN es i + 1]? = some (R, N) := by
        rw [← hhl]; simp
      obtain ⟨s', hk, hn', hr', hx', hg', hd'⟩ := lex_put (s := { s with rows := R, next := N }) hok hi hlen hn hget hd hhl hpre (fun e => by rw [he] at e; cases e) (fun _ => ⟨_, _, hpre _ _ hcur, hlast, hgetQ hqs⟩) hput
      obtain ⟨vs', hs', sf, hend⟩ := ih (i + 1) acc (hs ++ [(R, N)]) s' (vs ++ [v]) Q hdr' hilt (by simp [hlen]) (by rw [hown2 he]; simp [hhl]) (by rw [hown2 he, hr', hx']; exact hlast) hn' hg' hd'
        (hre.step hlen hi (fun _ h => h) fun e => by rw [he] at e; cases e) hk
      exact ⟨vs', hs', sf, { hend with pre := fun k h hk => hend.pre k h (hpre k h hk) }⟩
    unfold vcLex at h
    cases hg : gd ops s o with
    | none => rw [hg] at h; exact h.elim
    | some g =>
      rw [hg] at h
      simp only [gGo] at h
      rw [esMem_eq] at h
      cases he : es.elem i with
      | true =>
        rw [he] at h
        simp only [bGo] at h
        cases g with
        | none =>
          dsimp only at h
          have hx : ∃ v R N, vcOp P w0 T0 o ⟨s.n, onlyE s (rOps o.op), s.rows, s.next⟩ (fun r s' => r = v ∧ s'.rows = R ∧ s'.next = N) ∧ vcPut o.dst v { s with rows := R, next := N } (fun s' => vcLex P w0 T0 ops es tb l (i + 1) acc (hs ++ [(R, N)]) s' Q) := by
            cases hl : isLin o.op with
            | false =>
              rw [hl] at h
              obtain ⟨v, R, N, h1, h2, h3⟩ := h
              exact ⟨v, R, N, h1, vcPut_of h2 h3⟩
            | true =>
              rw [hl] at h
              obtain ⟨v, t, ⟨h2, h3⟩, hall⟩ := lin_op hl _ h
              exact ⟨v, t.rows, t.next, hall _ ⟨rfl, rfl, rfl⟩, vcPut_of h2 h3⟩
          obtain ⟨v, R, N, hA, hB⟩ := hx
          exact eff he v R N (QS.plain (h := (s.rows, s.next)) (h' := (R, N)) (gd_none hg) (qVc_opE (h := (s.rows, s.next)) hrd hA)) hB
        | some c =>
          dsimp only at h
          cases c with
          | true =>
            obtain ⟨v, R, N, ⟨hpc, hA⟩, h2, h3⟩ := h.1 rfl
            exact eff he (.opt true v) R N (QS.guarded (h := (s.rows, s.next)) (h' := (R, N)) hg (fun _ => qVc_opP (h := (s.rows, s.next)) hrd hpc hA) (fun e => by cases e)) (vcPut_of h2 h3)
          | false =>
            obtain ⟨h2, h3⟩ := h.2 rfl
            exact eff he (.opt false (.bool false)) s.rows s.next (QS.guarded (h := (s.rows, s.next)) (h' := (s.rows, s.next)) hg (fun e => by cases e) (fun _ => ⟨rfl, rfl⟩)) (vcPut_of h2 h3)
      | false =>
        rw [he] at h
        simp only [bGo] at h
        have gen : ∀ v, qCond P w0 T0 o g s v → vcPut o.dst (lxPut g v) s (fun s' => vcLex P w0 T0 ops es tb l (i + 1) (accPut (ksOf tb i) ⟨o, g, lxEnv g s (rOps o.op), v, ksOf tb i⟩ acc) hs s' Q) → ∃ vs' hs' sf, LexEnd P w0 T0 ops es tb s0 hs Q vs' hs' sf := by
          intro v hA hput
          cases g with
          | none =>
            refine quiet he v _ (fun x hx => mem_accPut hx) (QS.plain (h := (s.rows, s.next)) (h' := (s.rows, s.next)) (gd_none hg) (qVc_opE (h := (s.rows, s.next)) hrd hA)) ?_ hput
            intro k hk
            refine .inr ⟨_, mem_accPut' hk, rfl, fun h hc => QS.plain (h := h) (h' := h) (gd_none hg) (qVc_opE (h := h) hrd ?_)⟩
            simp only [redoC, qVc] at hc
            rw [← hn] at hc
            exact hc
          | some c =>
            refine quiet he (.opt c v) _ (fun x hx => mem_accPut hx) (QS.guarded (h := (s.rows, s.next)) (h' := (s.rows, s.next)) hg (fun e => qVc_opP (h := (s.rows, s.next)) hrd (hA.2 e).1 (hA.2 e).2) (fun _ => ⟨rfl, hA.1⟩)) ?_ hput
            intro k hk
            refine .inr ⟨_, mem_accPut' hk, rfl, fun h hc => ?_⟩
            simp only [redoC, qVc] at hc
            rw [← hn] at hc
            exact QS.guarded (h := h) (h' := h) hg (fun e => qVc_opP (h := h) hrd (hA.2 e).1 (hc.2 e)) (fun _ => ⟨rfl, hc.1⟩)
        unfold qRes at h
        cases hp : gPick ⟨s.n, onlyE s (rOps o.op), s.rows, s.next⟩ o.op with
        | some pb =>
          obtain ⟨pre, b⟩ := pb
          rw [hp] at h
          cases g with
          | none =>
            obtain ⟨⟨h1, h2⟩, h3, h4⟩ := h
            have hall : ∀ h : HpS, QS P w0 T0 ops o s.n s.get h h (.bool b) := fun h => QS.plain (gd_none hg) (gPick_op hrd hp h1 h2)
            exact quiet he _ acc (fun _ h => h) (hall _) (fun _ _ => .inl hall) (vcPut_of h3 h4)
          | some c =>
            obtain ⟨h1, h3, h4⟩ := h
            have hall : ∀ h : HpS, QS P w0 T0 ops o s.n s.get h h (.opt c (.bool b)) := fun h => QS.guarded hg (fun e => gPick_op hrd hp (h1 e).1 (h1 e).2) (fun _ => ⟨rfl, rfl⟩)
            exact quiet he _ acc (fun _ h => h) (hall _) (fun _ _ => .inl hall) (vcPut_of h3 h4)
        | none =>
          rw [hp] at h
          dsimp only at h
          cases hv : gVal P ⟨s.n, lxEnv g s (rOps o.op), s.rows, s.next⟩ o.op with
          | some v =>
            rw [hv] at h
            obtain ⟨h1, h3, h4⟩ := h
            exact gen v h1 (vcPut_of h3 h4)
          | none =>
            rw [hv] at h
            have call : (∃ v, qCond P w0 T0 o g s v ∧ Chk (dstOk o.dst s.n) (vcLex P w0 T0 ops es tb l (i + 1) (accPut (ksOf tb i) ⟨o, g, lxEnv g s (rOps o.op), v, ksOf tb i⟩ acc) hs (putS o.dst (lxPut g v) s) Q)) → ∃ vs' hs' sf, LexEnd P w0 T0 ops es tb s0 hs Q vs' hs' sf := by
              rintro ⟨v, h1, h3, h4⟩
              exact gen v h1 (vcPut_of h3 h4)
            cases g with
            | some c => exact call h
            | none =>
              cases hl : isLin o.op with
              | false => rw [hl] at h; exact call h
              | true =>
                rw [hl] at h
                obtain ⟨v, t, ⟨⟨hr, hx⟩, h3, h4⟩, hall⟩ := lin_op hl _ h
                exact gen v (hall _ ⟨rfl, hr, hx⟩) (vcPut_of h3 h4)
end
end Go.Fv

namespace Go.Fv
set_option linter.unusedSectionVars false
open Go.RowKit
set_option linter.unusedVariables false
set_option linter.unusedSimpArgs false
set_option linter.unnecessarySimpa false

section
variable {P : Program} {w0 : World} {T0 : Bs} {b0 : Nat} {ops : Array Oper} {es : List Nat} {tb : List (Nat × List Nat)} {T : List Nat} {H : List (AV × Value)} [hG : GlB P w0 T0]

theorem getD_lo {L : Array Bool} {i : Nat} (h : L.getD i true = false) : L.getD i false = false := by
  rcases Nat.lt_or_ge i L.size with h' | h'
  · simpa [h'] using h
  · simp [Array.getElem?_eq_none h']
theorem getD_hi {L : Array Bool} {i : Nat} (hi : i < L.size) (h : L.getD i false = false) : L.getD i true = false := by
  simpa [hi] using h
theorem getD_rep (m j : Nat) : (Array.replicate m false).getD j false = false := by
  rcases Nat.lt_or_ge j m with h | h
  · simp [h]
  · simp [Array.getElem?_eq_none, h]

def openN (L : Array Bool) (n : Nat) : Nat := (List.range n).countP fun j => !L.getD j false
theorem openN_set {L : Array Bool} {i : Nat} (hs : i < L.size) (hi : L.getD i false = false) : ∀ n, openN (L.setIfInBounds i true) n + (if i < n then 1 else 0) = openN L n
  | 0 => by simp [openN]
  | n + 1 => by
    have ih := openN_set hs hi n
    unfold openN at *
    rw [List.range_succ, List.countP_append, List.countP_append, List.countP_singleton, List.countP_singleton]
    by_cases e : i = n
    · subst e
      have h1 : (L.setIfInBounds i true).getD i false = true := by simp [hs]
      rw [h1, hi]
      simp at ih ⊢
      omega
    · rw [getD_set_ne false e]
      by_cases h2 : i < n
      · rw [if_pos h2] at ih; rw [if_pos (show i < n + 1 by omega)]; omega
      · rw [if_neg h2] at ih; rw [if_neg (show ¬ i < n + 1 by omega)]; omega
theorem openN_zero {L : Array Bool} {n : Nat} (h : openN L n = 0) : ∀ i, i < n → L.getD i false = true := by
  intro i hi
  unfold openN at h
  have := List.countP_eq_zero.1 h i (List.mem_range.2 hi)
  simpa using this

/-- The registers when these are listed. -/
def stG (ops : Array Oper) (s0 : S) (vs : List AV) (L : Array Bool) (r : Nat) : AV := match dix ops r with
  | some j => bif L.getD j false then vs.getD j .dead else s0.get r
  | none => s0.get r

structure LexInv (w0 : World) (T0 : Bs) (H : List (AV × Value)) (ops : Array Oper) (es : List Nat) (s0 : S) (vs : List AV) (hs : List HpS) (L : Array Bool) (k : Nat) (env : List (Nat × AV)) (a : Act) (w : World) : Prop where
  size : L.size = ops.size
  closed : ∀ (i : Nat) (o : Oper), ops[i]? = some o → L.getD i false = true → ∀ e, e ∈ o.after → Region.binds .any e = true → L.getD e.on false = true
  kle : k ≤ es.length
  es : ∀ (q i : Nat), es[q]? = some i → (L.getD i false = true ↔ q < k)
  get : ∀ r, S.get ⟨s0.n, env, [], 0⟩ r = stG ops s0 vs L r
  rep : ∃ h, hs[k]? = some h ∧ Rep w0 T0 H ⟨s0.n, env, h.1, h.2⟩ a w

theorem anc_listed (hok : LexOk ops es tb T) {L : Array Bool} (hsz : L.size = ops.size) (hc : ∀ (i : Nat) (o : Oper), ops[i]? = some o → L.getD i false = true → ∀ e, e ∈ o.after → Region.binds .any e = true → L.getD e.on false = true) :
    ∀ (i : Nat) (o : Oper), ops[i]? = some o → (∀ e, e ∈ o.after → Region.binds .any e = true → L.getD e.on false = true) → ∀ q, q < ops.size → bitT T i q = true → L.getD q false = true := by
  intro i
  induction i using Nat.strongRecOn with
  | _ i ih =>
    intro o hi hd q hq hb
    obtain ⟨e, he, hbd, hx⟩ := hok.anc i o hi q hq hb
    rcases hx with rfl | hx
    · exact hd e he hbd
    · have hlt := hok.low i o hi e he hbd
      have hL := hd e he hbd
      cases hoe : ops[e.on]? with
      | none =>
        have := Array.getElem?_eq_none_iff.1 hoe
        have hi' := (Array.getElem?_eq_some_iff.1 hi).1
        omega
      | some oe => exact ih e.on hlt oe hoe (hc e.on oe hoe hL) q hq hx

theorem lex_all (hok : LexOk ops es tb T) {s0 sf : S} {Q : S → Prop} {vs : List AV} {hs : List HpS} {hs0 : List HpS} (hend : LexEnd P w0 T0 ops es tb s0 hs0 Q vs hs sf) :
    ∀ (fuel : Nat) (L : Array Bool) (k : Nat) (env : List (Nat × AV)) (a : Act) (w : World), openN L ops.size = fuel → LexInv w0 T0 H ops es s0 vs hs L k env a w →
      wpAny P .any ops (fun e a' w' => e = .normal ∧ ∃ s', Q s' ∧ Rep w0 T0 H s' a' w') fuel L a w := by
  have fin : ∀ (L : Array Bool) (k : Nat) (env : List (Nat × AV)) (a : Act) (w : World), (∀ i, i < ops.size → L.getD i false = true) → LexInv w0 T0 H ops es s0 vs hs L k env a w → ∃ s', Q s' ∧ Rep w0 T0 H s' a w := by
    intro L k env a w hall inv
    have hk : k = es.length := by
      rcases Nat.lt_or_ge k es.length with hlt | hge
      · have h1 := inv.es k es[k] (List.getElem?_eq_getElem hlt)
        have h2 := hok.es1 k es[k] (List.getElem?_eq_getElem hlt)
        have := h1.1 (hall _ h2.1)
        omega
      · have := inv.kle; omega
    obtain ⟨h, hh, m, hm⟩ := inv.rep
    have hl := hend.last
    rw [hok.tot, ← hk, hh] at hl
    cases hl
    refine ⟨sf, hend.q, m, ?_⟩
    refine { size := by rw [hend.n]; exact hm.size, nodef := hm.nodef, below := hm.below, held := hm.held, rows := hm.rows, sep := hm.sep, env := ?_ }
    intro r v hv
    have hg : S.get ⟨s0.n, env, [], 0⟩ r = v := by
      rw [inv.get r]
      have h1 := hend.get r
      have h2 : sf.get r = v := by simp [S.get, hv]
      rw [← h2, h1]
      unfold stG lexG
      cases hx : dix ops r with
      | none => rfl
      | some j =>
        obtain ⟨o, ho, _⟩ := dix_some hx
        have hlt := (Array.getElem?_eq_some_iff.1 ho).1
        simp [hall j hlt, hlt]
    simp only [S.get] at hg
    cases hl : lk env r with
    | none => rw [hl] at hg; simp only at hg; subst hg; exact .dead _
    | some v' => rw [hl] at hg; simp only at hg; subst hg; exact hm.env r v' hl
  intro fuel
  induction fuel with
  | zero =>
    intro L k env a w hf inv
    have hall := openN_zero hf
    refine ⟨?_, rfl, fin L k env a w hall inv⟩
    apply List.eq_nil_iff_forall_not_mem.2
    intro j hj
    obtain ⟨h1, o, ho, _⟩ := mem_ready.1 hj
    have hlt := (Array.getElem?_eq_some_iff.1 ho).1
    have h2 := hall j hlt
    rw [getD_lo h1] at h2
    cases h2
  | succ fuel ih =>
    intro L k env a w hf inv
    refine ⟨?_, ?_⟩
    · intro hr
      refine ⟨rfl, fin L k env a w ?_ inv⟩
      intro i
      induction i using Nat.strongRecOn with
      | _ i ihi =>
        intro hi
        cases hL : L.getD i false with
        | true => rfl
        | false =>
          exfalso
          obtain ⟨o, ho⟩ : ∃ o, ops[i]? = some o := ⟨ops[i], Array.getElem?_eq_getElem hi⟩
          have hmem : i ∈ Region.ready .any ops L := mem_ready.2 ⟨getD_hi (by rw [inv.size]; exact hi) hL, o, ho, fun e he hb => ihi e.on (hok.low i o ho e he hb) (Nat.lt_trans (hok.low i o ho e he hb) hi)⟩
          rw [hr] at hmem; cases hmem
    · intro i hi
      obtain ⟨hun, o, ho, hdep⟩ := mem_ready.1 hi
      have hlt := (Array.getElem?_eq_some_iff.1 ho).1
      have hL : L.getD i false = false := getD_lo hun
      have hanc := anc_listed hok inv.size inv.closed i o ho hdep
      -- what the operation looks at
      have hagree : ∀ r, r ∈ o.looksAt ops → S.get ⟨s0.n, env, [], 0⟩ r = lexG ops s0 vs i r := by
        intro r hr
        rw [inv.get r]
        unfold stG lexG
        cases hx : dix ops r with
        | none => rfl
        | some j =>
          obtain ⟨oj, hj, hdj⟩ := dix_some hx
          have hjlt := (Array.getElem?_eq_some_iff.1 hj).1
          rcases hok.look i o r j oj ho hj hdj hr with ⟨hb, hji⟩ | ⟨hb, hij, hb'⟩
          · dsimp only
            rw [hanc j hjlt hb, if_pos hji]; rfl
          · have hLj : L.getD j false = false := by
              cases hLj : L.getD j false with
              | false => rfl
              | true =>
                have := anc_listed hok inv.size inv.closed j oj hj (inv.closed j oj hj hLj) i hlt hb'
                rw [hL] at this; cases this
            dsimp only
            rw [hLj, if_neg (by omega)]; rfl
      -- one more is listed
      have next : ∀ (k' : Nat) (h' : HpS) (val : Value) (w' : World), hs[k']? = some h' → k' ≤ es.length → (∀ (q j : Nat), es[q]? = some j → ((L.setIfInBounds i true).getD j false = true ↔ q < k')) →
          Rep w0 T0 ((vs.getD i .dead, val) :: H) ⟨s0.n, env, h'.1, h'.2⟩ a w' →
          wpAny P .any ops (fun e a' w' => e = .normal ∧ ∃ s', Q s' ∧ Rep w0 T0 H s' a' w') fuel (L.setIfInBounds i true) (a.put o.dst val) w' := by
        intro k' h' val w' hh' hk' hes' ⟨m', hm'⟩
        have hop := openN_set (by rw [inv.size]; exact hlt) hL ops.size
        rw [if_pos hlt] at hop
        have hclosed : ∀ (j : Nat) (oj : Oper), ops[j]? = some oj → (L.setIfInBounds i true).getD j false = true → ∀ e, e ∈ oj.after → Region.binds .any e = true → (L.setIfInBounds i true).getD e.on false = true := by
          intro j oj hj hLj e he hb
          by_cases hij : i = j
          · subst hij
            rw [ho] at hj; cases hj
            exact getD_set_true (hdep e he hb)
          · rw [getD_set_ne false hij] at hLj
            exact getD_set_true (inv.closed j oj hj hLj e he hb)
        have hset : ∀ r, o.dst ≠ some r → stG ops s0 vs (L.setIfInBounds i true) r = stG ops s0 vs L r := by
          intro r hr
          unfold stG
          cases hx : dix ops r with
          | none => rfl
          | some j =>
            dsimp only
            have hne : i ≠ j := by
              rintro rfl
              obtain ⟨oj, hj, hdj⟩ := dix_some hx
              rw [ho] at hj; cases hj
              exact hr hdj
            rw [getD_set_ne false hne]
        cases hd : o.dst with
        | none =>
          refine ih _ k' env _ w' (by omega) { size := by simpa using inv.size, closed := hclosed, kle := hk', es := hes', get := fun r => ?_, rep := ⟨h', hh', m', hm'.unhold⟩ }
          rw [hset r (by rw [hd]; simp)]; exact inv.get r
        | some d =>
          have hdn : d < s0.n := hend.done.put i o d hlt ho hd
          have hput := hm'.unhold.putd (hm'.held _ (.head _)) (d := d) hdn
          refine ih _ k' ((d, vs.getD i .dead) :: env) _ w' (by omega) { size := by simpa using inv.size, closed := hclosed, kle := hk', es := hes', get := fun r => ?_, rep := ⟨h', hh', m', hput⟩ }
          by_cases e : d = r
          · subst e
            have hx := hok.dix ho hd
            have hL1 : (L.setIfInBounds i true).getD i false = true := by
              have : i < L.size := by rw [inv.size]; exact hlt
              simp [this]
            unfold stG
            rw [hx]
            dsimp only
            rw [hL1]
            simp [S.get, lk]
          · rw [hset r (by rw [hd]; simpa using e), ← inv.get r]
            simp [S.get, lk, e]
      obtain ⟨h, hh, hrep⟩ := inv.rep
      unfold wpOp
      rw [ho]
      dsimp only
      have wrap : ∀ {A B : Prop} {b : Bool} {C : Prop}, (if b = true then A else B) → (if b = true then A ∨ C else B) := by
        intro A B b C h
        cases b with
        | true => simpa using Or.inl h
        | false => simpa using h
      apply wrap
      cases he : es.elem i with
      | false =>
        have hes' : ∀ (q j : Nat), es[q]? = some j → ((L.setIfInBounds i true).getD j false = true ↔ q < k) := by
          intro q j hq
          have hne : i ≠ j := by
            rintro rfl
            have : es.elem i = true := by simpa using List.mem_of_getElem? hq
            rw [he] at this; cases this
          rw [getD_set_ne false hne]
          exact inv.es q j hq
        have hqs : QS P w0 T0 ops o s0.n (lexG ops s0 vs i) h h (vs.getD i .dead) := by
          rcases hok.heaps i o ho he k inv.kle with h0 | h0 | ⟨k', e, hk', hke, hb⟩ | ⟨k', e, hk', hke, hb⟩
          · obtain ⟨h2, hh2, hq⟩ := hend.done.quiet i o hlt ho he
            rw [← h0, hh] at hh2; cases hh2
            exact hq
          · exact hend.re i o ho he k h0 h hh
          · have h1 := hanc e (hok.es1 k' e hke).1 hb
            have := (inv.es k' e hke).1 h1
            omega
          · have h1 := (inv.es k' e hke).2 hk'
            cases hoe : ops[e]? with
            | none =>
              have h2 := Array.getElem?_eq_none_iff.1 hoe
              have h3 := (hok.es1 k' e hke).1
              omega
            | some oe =>
              have := anc_listed hok inv.size inv.closed e oe hoe (inv.closed e oe hoe h1) i hlt hb
              rw [hL] at this; cases this
        exact hqs env hagree H a w _ _ hrep fun val w' hr' => next k h val w' hh inv.kle hes' hr'
      | true =>
        obtain ⟨q, hq⟩ := List.mem_iff_getElem?.1 (show i ∈ es by simpa using he)
        obtain ⟨_, hown⟩ := hok.es1 q i hq
        have hge : ¬ q < k := fun hlt' => by
          have := (inv.es q i hq).2 hlt'
          rw [hL] at this; cases this
        have hqk : q = k := by
          cases q with
          | zero => omega
          | succ q =>
            have hqlt : q < es.length := by
              have := (List.getElem?_eq_some_iff.1 hq).1; omega
            have h1 := hok.es2 q es[q] i (List.getElem?_eq_getElem hqlt) hq
            have h2 := hanc es[q] (hok.es1 q _ (List.getElem?_eq_getElem hqlt)).1 h1
            have h3 := (inv.es q _ (List.getElem?_eq_getElem hqlt)).1 h2
            omega
        subst hqk
        obtain ⟨h1, h2, hh1, hh2, hqs⟩ := hend.done.eff i o hlt ho he
        rw [hown, hh] at hh1; cases hh1
        rw [hown] at hh2
        have hqlt : q < es.length := (List.getElem?_eq_some_iff.1 hq).1
        have hes' : ∀ (q' j : Nat), es[q']? = some j → ((L.setIfInBounds i true).getD j false = true ↔ q' < q + 1) := by
          intro q' j hq'
          by_cases e : i = j
          · subst e
            have h3 := (hok.es1 q' i hq').2
            have : i < L.size := by rw [inv.size]; exact hlt
            have h4 : (L.setIfInBounds i true).getD i false = true := by simp [this]
            rw [h4]
            constructor
            · intro _; omega
            · intro _; rfl
          · rw [getD_set_ne false e]
            have h3 := (hok.es1 q' j hq').2
            have hne : q' ≠ q := by
              rintro rfl
              rw [hq] at hq'; cases hq'; exact e rfl
            rw [inv.es q' j hq']
            omega
        exact hqs env hagree H a w _ _ hrep fun val w' hr' => next (q + 1) h2 val w' hh2 hqlt hes' hr'

/-- A drawn region, walked once. 'es': the operations that change the abstract state; 'tb': what is to be shown at more than one heap. -/
theorem VcDraw.lex {id : Nat} {s : S} {Q : S → Prop} (es : List Nat) (tb : List (Nat × List Nat)) (hm : P.follows .mixedOrders = true) (hok : lexOk ops es tb (mkAnc ops) = true)
    (h : vcLex P w0 T0 ops es tb ops.toList 0 [] [(s.rows, s.next)] s Q) : @VcDraw P w0 T0 b0 id ops s ⟨Q⟩ := by
  intro H a w _ hr
  refine wp_region_any hm ?_
  have hr' : Rep w0 T0 H s a { w with drawn := w.drawn + 1 } := by
    obtain ⟨m, hm⟩ := hr
    exact ⟨m, hm.drawn⟩
  have ok := LexOk.of hok
  have hg0 : ∀ r, s.get r = lexG ops s [] 0 r := by
    intro r; unfold lexG; split <;> simp
  obtain ⟨vs, hs, sf, hend⟩ := vcLex_ext ok ops.toList 0 [] [(s.rows, s.next)] s [] Q rfl (Nat.zero_le _) rfl rfl rfl rfl hg0
    ⟨fun j o h => absurd h (by omega), fun j o h => absurd h (by omega), fun j o d h => absurd h (by omega)⟩ (fun j o h => absurd h (by omega)) h
  have hL : ∀ j, (Array.replicate ops.size false).getD j false = false := fun j => getD_rep _ j
  have hop : openN (Array.replicate ops.size false) ops.size = ops.size := by
    unfold openN
    have : (List.range ops.size).countP (fun j => !(Array.replicate ops.size false).getD j false) = (List.range ops.size).length := by
      apply List.countP_eq_length.2
      intro j _
      rw [hL j]; rfl
    rw [this, List.length_range]
  refine lex_all ok hend ops.size (Array.replicate ops.size false) 0 s.env a _ hop ?_
  refine { size := by simp, closed := fun i o _ h => (by rw [hL] at h; cases h), kle := Nat.zero_le _, es := fun q i _ => (by rw [hL]; simp), get := fun r => ?_, rep := ⟨_, hend.pre 0 _ rfl, hr'⟩ }
  unfold stG
  split
  · rw [hL]; rfl
  · rfl
end
end Go.Fv

/-! Regions whose order is drawn, where operations that change the state may change places: a tree of these; the others are walked once, and shown again where the heap changes. -/
namespace Go.Fv
set_option linter.unusedSectionVars false
open Go.RowKit
set_option linter.unusedVariables false
set_option linter.unusedSimpArgs false
set_option linter.unnecessarySimpa false

def accKeep (ks : List Nat) : List (Nat × Acc) → List (Nat × Acc)
  | [] => []
  | x :: l => bif esMem ks x.1 then x :: accKeep ks l else accKeep ks l
def redoH (P : Program) (w0 : World) (T0 : Bs) (n : Nat) (o : Oper) (g : Option Bool) (env : List (Nat × AV)) (v : AV) (R : List (Nat × Item)) (N : Nat) : Prop := match g with
  | .none => qVc P w0 T0 o ⟨n, env, R, N⟩ v
  | .some c => Fv.below N v = true ∧ (c = true → qVc P w0 T0 o ⟨n, env, R, N⟩ v)
def redoT (P : Program) (w0 : World) (T0 : Bs) (n : Nat) (R : List (Nat × Item)) (N : Nat) : List (Nat × Acc) → Prop
  | [] => True
  | (_, ⟨o, g, env, v, _⟩) :: l => redoH P w0 T0 n o g env v R N ∧ redoT P w0 T0 n R N l

section
variable {P : Program} {w0 : World} {T0 : Bs} {b0 : Nat} {ops : Array Oper} {T : List Nat} {H : List (AV × Value)} [hG : GlB P w0 T0]

def Cl (ops : Array Oper) (V : Array Bool) : Prop := ∀ (i : Nat) (o : Oper), ops[i]? = some o → V.getD i false = true → ∀ e, e ∈ o.after → Region.binds .any e = true → V.getD e.on false = true
def Dp (V : Array Bool) (o : Oper) : Prop := ∀ e, e ∈ o.after → Region.binds .any e = true → V.getD e.on false = true

theorem stG_set {s0 : S} {vs : List AV} {V : Array Bool} {i : Nat} {v : AV} (h : V.getD i false = false) (r : Nat) : stG ops s0 (vs.set i v) V r = stG ops s0 vs V r := by
  unfold stG
  split
  · rename_i j _
    by_cases e : i = j
    · subst e; rw [h]; rfl
    · simp [List.getD_eq_getElem?_getD, List.getElem?_set, e]
  · rfl

/-- What is known of the operations that may be late. -/
structure VInv (P : Program) (w0 : World) (T0 : Bs) (ops : Array Oper) (s0 : S) (vs : List AV) (V : Array Bool) (Pd : List Nat) (acc : List (Nat × Acc)) (s : S) : Prop where
  vsize : V.size = ops.size
  vlen : vs.length = ops.size
  cl : Cl ops V
  n : s.n = s0.n
  sget : ∀ r, s.get r = stG ops s0 vs V r
  pd : ∀ j, j ∈ Pd → V.getD j false = true ∧ ∀ o, ops[j]? = some o → ∃ U : Array Bool, U.size = ops.size ∧ Cl ops U ∧ (∀ i, U.getD i false = true → V.getD i false = true) ∧ Dp U o ∧ U.getD j false = false ∧
    QS P w0 T0 ops o s0.n (stG ops s0 vs U) (s.rows, s.next) (s.rows, s.next) (vs.getD j .dead) ∧
    ((∀ h, QS P w0 T0 ops o s0.n (stG ops s0 vs U) h h (vs.getD j .dead)) ∨ ∃ x, (j, x) ∈ acc ∧ ∀ h, redoC P w0 T0 s0.n x h → QS P w0 T0 ops o s0.n (stG ops s0 vs U) h h (vs.getD j .dead))
  put : ∀ j o d, V.getD j false = true → ops[j]? = some o → o.dst = some d → d < s0.n

/-- The machine's own place: some that are walked already are late. -/
structure RInv (w0 : World) (T0 : Bs) (H : List (AV × Value)) (ops : Array Oper) (s0 : S) (vs : List AV) (V : Array Bool) (Pd : List Nat) (s : S) (L : Array Bool) (env : List (Nat × AV)) (a : Act) (w : World) : Prop where
  size : L.size = ops.size
  cl : Cl ops L
  sub : ∀ i, L.getD i false = true → V.getD i false = true
  get : ∀ r, S.get ⟨s0.n, env, [], 0⟩ r = stG ops s0 vs L r
  rep : Rep w0 T0 H ⟨s0.n, env, s.rows, s.next⟩ a w
  pd : ∀ i, V.getD i false = true → L.getD i false = false → i ∈ Pd

theorem Cl.set {V : Array Bool} {i : Nat} {o : Oper} (h : Cl ops V) (ho : ops[i]? = some o) (hd : Dp V o) : Cl ops (V.setIfInBounds i true) := by
  intro j oj hj hLj e he hb
  by_cases hij : i = j
  · subst hij
    rw [ho] at hj; cases hj
    exact getD_set_true (hd e he hb)
  · rw [getD_set_ne false hij] at hLj
    exact getD_set_true (h j oj hj hLj e he hb)

/-- The registers after one operation more. -/
theorem stG_put (hok : LexOk ops [] [] T) {s0 : S} {vs : List AV} {V : Array Bool} {i : Nat} {o : Oper} {g : Nat → AV} (ho : ops[i]? = some o) (hs : V.size = ops.size) (hg : ∀ r, g r = stG ops s0 vs V r) :
    ∀ r, (match o.dst with | some d => if d = r then vs.getD i .dead else g r | none => g r) = stG ops s0 vs (V.setIfInBounds i true) r := by
  intro r
  have hilt := (Array.getElem?_eq_some_iff.1 ho).1
  have hV : (V.setIfInBounds i true).getD i false = true := by
    have : i < V.size := by rw [hs]; exact hilt
    simp [this]
  have old : o.dst ≠ some r → g r = stG ops s0 vs (V.setIfInBounds i true) r := by
    intro hne
    rw [hg r]
    unfold stG
    cases hx : dix ops r with
    | none => rfl
    | some j =>
      dsimp only
      have hij : i ≠ j := by
        rintro rfl
        obtain ⟨oj, hj, hdj⟩ := dix_some hx
        rw [ho] at hj; cases hj
        exact hne hdj
      rw [getD_set_ne false hij]
  cases hd : o.dst with
  | none => exact old (by rw [hd]; simp)
  | some d =>
    dsimp only
    by_cases e : d = r
    · subst e
      rw [if_pos rfl]
      unfold stG
      rw [hok.dix ho hd]
      dsimp only
      rw [hV]; rfl
    · rw [if_neg e]
      exact old (by rw [hd]; simpa using e)

theorem get_cons {n d r : Nat} {v : AV} {env : List (Nat × AV)} {R : List (Nat × Item)} {N : Nat} : S.get ⟨n, (d, v) :: env, R, N⟩ r = if d = r then v else S.get ⟨n, env, R, N⟩ r := by
  by_cases e : d = r
  · subst e; simp [S.get, lk]
  · simp [S.get, lk, e]
/-- One more is listed by the machine: its registers and its heap. -/
theorem RInv.more (hok : LexOk ops [] [] T) {s0 : S} {vs : List AV} {L : Array Bool} {env : List (Nat × AV)} {a : Act} {w' : World} {i : Nat} {o : Oper} {R : List (Nat × Item)} {N : Nat} {val : Value}
    (ho : ops[i]? = some o) (hs : L.size = ops.size) (hg : ∀ r, S.get ⟨s0.n, env, [], 0⟩ r = stG ops s0 vs L r) (hput : ∀ d, o.dst = some d → d < s0.n)
    (hr : Rep w0 T0 ((vs.getD i .dead, val) :: H) ⟨s0.n, env, R, N⟩ a w') :
    ∃ env', (∀ r, S.get ⟨s0.n, env', [], 0⟩ r = stG ops s0 vs (L.setIfInBounds i true) r) ∧ Rep w0 T0 H ⟨s0.n, env', R, N⟩ (a.put o.dst val) w' := by
  obtain ⟨m', hm'⟩ := hr
  have hst := stG_put hok (s0 := s0) (vs := vs) ho hs hg
  cases hd : o.dst with
  | none =>
    rw [hd] at hst
    exact ⟨env, hst, m', hm'.unhold⟩
  | some d =>
    rw [hd] at hst
    have h2 := hm'.unhold.putd (hm'.held _ (.head _)) (d := d) (hput d hd)
    exact ⟨(d, vs.getD i .dead) :: env, fun r => by rw [get_cons]; exact hst r, m', h2⟩

end
end Go.Fv

namespace Go.Fv
set_option linter.unusedSectionVars false
open Go.RowKit
set_option linter.unusedVariables false
set_option linter.unusedSimpArgs false
set_option linter.unnecessarySimpa false

theorem mem_accKeep {ks : List Nat} {x : Nat × Acc} (hk : esMem ks x.1 = true) : ∀ {l : List (Nat × Acc)}, x ∈ l → x ∈ accKeep ks l
  | y :: l, h => by
    unfold accKeep
    rcases List.mem_cons.1 h with rfl | h
    · rw [hk]; exact .head _
    · cases esMem ks y.1 with
      | true => exact .tail _ (mem_accKeep hk h)
      | false => exact mem_accKeep hk h
theorem esMem_mem {l : List Nat} {i : Nat} : esMem l i = true ↔ i ∈ l := by
  rw [esMem_eq]; simp

section
variable {P : Program} {w0 : World} {T0 : Bs} {b0 : Nat} {ops : Array Oper} {T : List Nat} {H : List (AV × Value)} [hG : GlB P w0 T0]

theorem redoT_mem {n : Nat} {R : List (Nat × Item)} {N : Nat} {x : Nat × Acc} {l : List (Nat × Acc)} (h : redoT P w0 T0 n R N l) (hx : x ∈ l) : redoC P w0 T0 n x.2 (R, N) := by
  induction l with
  | nil => cases hx
  | cons y l ih =>
    obtain ⟨j, o, g, env, v, ks⟩ := y
    have h1 : redoH P w0 T0 n o g env v R N := h.1
    have h2 : redoT P w0 T0 n R N l := h.2
    rcases List.mem_cons.1 hx with rfl | hx
    · unfold redoH at h1; unfold redoC
      cases g with
      | none => exact h1
      | some c => exact h1
    · exact ih h2 hx

theorem set_getD_self {vs : List AV} {i : Nat} {v : AV} (h : i < vs.length) : (vs.set i v).getD i .dead = v := by
  simp [List.getD_eq_getElem?_getD, h]
theorem set_getD_ne {vs : List AV} {i j : Nat} {v : AV} (h : i ≠ j) : (vs.set i v).getD j .dead = vs.getD j .dead := by
  simp [List.getD_eq_getElem?_getD, List.getElem?_set, h]

theorem putS_get (hok : LexOk ops [] [] T) {s0 s : S} {vs : List AV} {V : Array Bool} {i : Nat} {o : Oper} {v : AV} {R : List (Nat × Item)} {N : Nat} (ho : ops[i]? = some o) (hs : V.size = ops.size) (hl : vs.length = ops.size) (hV : V.getD i false = false) (hg : ∀ r, s.get r = stG ops s0 vs V r) :
    ∀ r, (putS o.dst v ⟨s.n, s.env, R, N⟩).get r = stG ops s0 (vs.set i v) (V.setIfInBounds i true) r := by
  intro r
  have hilt := (Array.getElem?_eq_some_iff.1 ho).1
  have h := stG_put hok (s0 := s0) (vs := vs.set i v) (g := s.get) ho hs (fun r => (hg r).trans (stG_set hV r).symm) r
  rw [set_getD_self (by omega)] at h
  rw [← h]
  unfold putS
  cases o.dst with
  | none => rfl
  | some d => exact get_cons

theorem VInv.quiet (hok : LexOk ops [] [] T) {s0 s : S} {vs : List AV} {V : Array Bool} {Pd : List Nat} {acc acc' : List (Nat × Acc)} {i : Nat} {o : Oper} {v : AV} (hv : VInv P w0 T0 ops s0 vs V Pd acc s) (ho : ops[i]? = some o) (hd : Dp V o) (hV : V.getD i false = false)
    (hq : QS P w0 T0 ops o s.n s.get (s.rows, s.next) (s.rows, s.next) v) (hr : (∀ h, QS P w0 T0 ops o s.n s.get h h v) ∨ ∃ x, (i, x) ∈ acc' ∧ ∀ h, redoC P w0 T0 s.n x h → QS P w0 T0 ops o s.n s.get h h v)
    (hsub : ∀ x, x ∈ acc → x ∈ acc') (hdst : dstOk o.dst s.n) : VInv P w0 T0 ops s0 (vs.set i v) (V.setIfInBounds i true) (i :: Pd) acc' (putS o.dst v s) := by
  have hilt := (Array.getElem?_eq_some_iff.1 ho).1
  have hVs : (V.setIfInBounds i true).getD i false = true := by
    have : i < V.size := by rw [hv.vsize]; exact hilt
    simp [this]
  have hup : ∀ j, V.getD j false = true → (V.setIfInBounds i true).getD j false = true := fun j hj => getD_set_true hj
  have hrows : (putS o.dst v s).rows = s.rows ∧ (putS o.dst v s).next = s.next ∧ (putS o.dst v s).n = s.n := by
    unfold putS; cases o.dst <;> exact ⟨rfl, rfl, rfl⟩
  have conv : ∀ {h h' : HpS}, QS P w0 T0 ops o s.n s.get h h' v → QS P w0 T0 ops o s0.n (stG ops s0 (vs.set i v) V) h h' ((vs.set i v).getD i .dead) := by
    intro h h' hh
    rw [set_getD_self (by rw [hv.vlen]; exact hilt), ← hv.n]
    exact hh.congr fun r _ => by rw [stG_set hV]; exact (hv.sget r).symm
  refine ⟨by simpa using hv.vsize, by simpa using hv.vlen, hv.cl.set ho hd, by rw [hrows.2.2]; exact hv.n, ?_, ?_, ?_⟩
  · exact putS_get hok (R := s.rows) (N := s.next) ho hv.vsize hv.vlen hV hv.sget
  · intro j hj
    rcases List.mem_cons.1 hj with rfl | hj
    · refine ⟨hVs, fun o' ho' => ?_⟩
      rw [ho] at ho'; cases ho'
      refine ⟨V, hv.vsize, hv.cl, hup, hd, hV, ?_, ?_⟩
      · rw [hrows.1, hrows.2.1]; exact conv hq
      · rcases hr with h | ⟨x, hx, h⟩
        · exact .inl fun h' => conv (h h')
        · exact .inr ⟨x, hx, fun h' hc => conv (h h' (by rw [hv.n]; exact hc))⟩
    · obtain ⟨h1, h2⟩ := hv.pd j hj
      have hne : i ≠ j := by rintro rfl; rw [hV] at h1; cases h1
      refine ⟨hup j h1, fun o' ho' => ?_⟩
      obtain ⟨U, u1, u2, u3, u4, u5, u6, u7⟩ := h2 o' ho'
      have hUi : U.getD i false = false := by
        cases hu : U.getD i false with
        | false => rfl
        | true => have := u3 i hu; rw [hV] at this; cases this
      have cv : ∀ {h h' : HpS}, QS P w0 T0 ops o' s0.n (stG ops s0 vs U) h h' (vs.getD j .dead) → QS P w0 T0 ops o' s0.n (stG ops s0 (vs.set i v) U) h h' ((vs.set i v).getD j .dead) := by
        intro h h' hh
        rw [set_getD_ne hne]
        exact hh.congr fun r _ => stG_set hUi r
      refine ⟨U, u1, u2, fun k hk => hup k (u3 k hk), u4, u5, ?_, ?_⟩
      · rw [hrows.1, hrows.2.1]; exact cv u6
      · rcases u7 with h | ⟨x, hx, h⟩
        · exact .inl fun h' => cv (h h')
        · exact .inr ⟨x, hsub _ hx, fun h' hc => cv (h h' hc)⟩
  · intro j oj d hj hoj hdj
    by_cases e : i = j
    · subst e
      rw [ho] at hoj; cases hoj
      rw [hdj] at hdst
      rw [← hv.n]; exact hdst
    · rw [getD_set_ne false e] at hj
      exact hv.put j oj d hj hoj hdj

theorem VInv.eff (hok : LexOk ops [] [] T) {s0 s : S} {vs : List AV} {V : Array Bool} {Pd ks : List Nat} {acc : List (Nat × Acc)} {i : Nat} {o : Oper} {v : AV} {R : List (Nat × Item)} {N : Nat} (hv : VInv P w0 T0 ops s0 vs V Pd acc s) (ho : ops[i]? = some o) (hd : Dp V o) (hV : V.getD i false = false)
    (hks : ∀ j, j ∈ ks → j ∈ Pd) (hre : redoT P w0 T0 s.n R N (accKeep ks acc)) (hdst : dstOk o.dst s.n) : VInv P w0 T0 ops s0 (vs.set i v) (V.setIfInBounds i true) ks (accKeep ks acc) (putS o.dst v ⟨s.n, s.env, R, N⟩) := by
  have hilt := (Array.getElem?_eq_some_iff.1 ho).1
  have hup : ∀ j, V.getD j false = true → (V.setIfInBounds i true).getD j false = true := fun j hj => getD_set_true hj
  have hrows : (putS o.dst v ⟨s.n, s.env, R, N⟩).rows = R ∧ (putS o.dst v ⟨s.n, s.env, R, N⟩).next = N ∧ (putS o.dst v ⟨s.n, s.env, R, N⟩).n = s.n := by
    unfold putS; cases o.dst <;> exact ⟨rfl, rfl, rfl⟩
  refine ⟨by simpa using hv.vsize, by simpa using hv.vlen, hv.cl.set ho hd, by rw [hrows.2.2]; exact hv.n, ?_, ?_, ?_⟩
  · exact putS_get hok ho hv.vsize hv.vlen hV hv.sget
  · intro j hj
    obtain ⟨h1, h2⟩ := hv.pd j (hks j hj)
    have hne : i ≠ j := by rintro rfl; rw [hV] at h1; cases h1
    refine ⟨hup j h1, fun o' ho' => ?_⟩
    obtain ⟨U, u1, u2, u3, u4, u5, u6, u7⟩ := h2 o' ho'
    have hUi : U.getD i false = false := by
      cases hu : U.getD i false with
      | false => rfl
      | true => have := u3 i hu; rw [hV] at this; cases this
    have cv : ∀ {h h' : HpS}, QS P w0 T0 ops o' s0.n (stG ops s0 vs U) h h' (vs.getD j .dead) → QS P w0 T0 ops o' s0.n (stG ops s0 (vs.set i v) U) h h' ((vs.set i v).getD j .dead) := by
      intro h h' hh
      rw [set_getD_ne hne]
      exact hh.congr fun r _ => stG_set hUi r
    refine ⟨U, u1, u2, fun k hk => hup k (u3 k hk), u4, u5, ?_, ?_⟩
    · rw [hrows.1, hrows.2.1]
      rcases u7 with h | ⟨x, hx, h⟩
      · exact cv (h _)
      · have := redoT_mem hre (mem_accKeep (x := (j, x)) (esMem_mem.2 hj) hx)
        rw [hv.n] at this
        exact cv (h _ this)
    · rcases u7 with h | ⟨x, hx, h⟩
      · exact .inl fun h' => cv (h h')
      · exact .inr ⟨x, mem_accKeep (x := (j, x)) (esMem_mem.2 hj) hx, fun h' hc => cv (h h' hc)⟩
  · intro j oj d hj hoj hdj
    by_cases e : i = j
    · subst e
      rw [ho] at hoj; cases hoj
      rw [hdj] at hdst
      rw [← hv.n]; exact hdst
    · rw [getD_set_ne false e] at hj
      exact hv.put j oj d hj hoj hdj

end
end Go.Fv

/-
  Congruences: only the state of a word is reckoned out, not what stands behind it.
-/
namespace Go.Fv
set_option linter.unusedSectionVars false
set_option linter.unusedVariables false

section
variable {P : Program} {w0 : World} {T0 : Bs} {s s' : S} {K : AV → S → Prop}
@[congr] theorem vcGo_congr {ops : Array Oper} {o : Oper} {k : S → Prop} (h : s = s') : vcGo P w0 T0 ops o s k = vcGo P w0 T0 ops o s' k := by rw [h]
@[congr] theorem vcWhen_congr {o : Oper} {c c' : Bool} {s1 s2 : S} {k : S → Prop} (hc : c = c') (h : s = s') : vcWhen P w0 T0 o c s s1 s2 k = vcWhen P w0 T0 o c' s' s1 s2 k := by rw [hc, h]
@[congr] theorem vcOps_congr {ops : Array Oper} {l : List Oper} {k : S → Prop} (h : s = s') : vcOps P w0 T0 ops l s k = vcOps P w0 T0 ops l s' k := by rw [h]
@[congr] theorem vcTree_congr {ops : Array Oper} {l : DTree} {k : S → Prop} (h : s = s') : vcTree P w0 T0 ops l s k = vcTree P w0 T0 ops l s' k := by rw [h]
@[congr] theorem vcCode_congr {b0 : Nat} {c : Code} {Q : Exit → S → Prop} (h : s = s') : vcCode P w0 T0 b0 c Q s = vcCode P w0 T0 b0 c Q s' := by rw [h]
@[congr] theorem vcPut_congr {d : Option Nat} {v v' : AV} {k : S → Prop} (hv : v = v') (h : s = s') : vcPut d v s k = vcPut d v' s' k := by rw [hv, h]
@[congr] theorem vcOp_congr {o : Oper} (h : s = s') : vcOp P w0 T0 o s K = vcOp P w0 T0 o s' K := by rw [h]
@[congr] theorem vcCallOp_congr {c : Call} (h : s = s') : vcCallOp P w0 T0 c s K = vcCallOp P w0 T0 c s' K := by rw [h]
end
end Go.Fv

/-
  Facts about types, out of one glance each.
-/
namespace Go.Fv
set_option linter.unusedSectionVars false
set_option linter.unusedVariables false

def zOkB : Value → Bool
  | .int k n => inKB k n
  | .string s => s.size == 0
  | .agg cs => (cs.toList.all fun v => v.oneCell' && (match v with | .string s => s.size == 0 | _ => true)) && decide (0 < cs.size)
  | .tuple _ => false
  | _ => true
theorem zOk_of_B {v : Value} (h : zOkB v = true) : zOk v := by
  cases v <;> first | trivial | cases h; done | skip
  case int k n => exact InK_of_B h
  case string s =>
    have h' : s.size = 0 := by simpa [zOkB] using h
    show s.size ≤ maxLen
    rw [h']; exact Nat.zero_le _
  case agg cs =>
    simp only [zOkB, Bool.and_eq_true, List.all_eq_true, decide_eq_true_eq] at h
    refine ⟨fun v hv => ⟨(h.1 v hv).1, ?_⟩, h.2⟩
    have h2 := (h.1 v hv).2
    cases v <;> try trivial
    rename_i s
    have h' : s.size = 0 := by simpa using h2
    show s.size ≤ maxLen
    rw [h']; exact Nat.zero_le _
theorem ElemZ.of {P : Program} {e : TypeId} {z : Value} (h : (P.info? e).map (fun i => (i.zero, i.size, decide (i.bytes ≤ 1024))) = some (some z, z.cells.size, true)) (hz : zOkB z = true) : ElemZ P e z := by
  refine ⟨?_, zOk_of_B hz⟩
  cases hi : P.info? e with
  | none => rw [hi] at h; cases h
  | some i =>
    rw [hi] at h
    simp only [Option.map_some, Option.some.injEq, Prod.mk.injEq, decide_eq_true_eq] at h
    exact ⟨i, rfl, h.1, h.2.1, h.2.2⟩
theorem ElemZ.zero {P : Program} {e : TypeId} {z : Value} (h : ElemZ P e z) : zeroOf P e = some z := by
  obtain ⟨i, h1, h2, _⟩ := h.ex
  simp [zeroOf, h1, h2]
theorem ElemZ.cellsOf {P : Program} {e : TypeId} {z : Value} (h : ElemZ P e z) : P.cellsOf e = z.cells.size := by
  obtain ⟨i, h1, h2, h3, _⟩ := h.ex
  simp [Program.cellsOf, h1, h3]
end Go.Fv

/-
  The names of one state among those of another, found by looking; steps of a walk.
-/
namespace Go.Fv
set_option linter.unusedSectionVars false
set_option linter.unusedVariables false

mutual
def mkV : AV → AV → List (Nat × Nat)
  | .own i, y => match y with | .own k => [(i, k)] | _ => []
  | .ptr i _, y => match y with | .ptr k _ => [(i, k)] | _ => []
  | .elt i _ _ _, y => match y with | .elt k _ _ _ => [(i, k)] | _ => []
  | .pre i _, y => match y with | .pre k _ => [(i, k)] | _ => []
  | .agg l, y => match y with | .agg l' => mkL l l' | _ => []
  | .tup l, y => match y with | .tup l' => mkL l l' | _ => []
  | .fn _ l, y => match y with | .fn _ l' => mkL l l' | _ => []
  | .dead, _ => []
  | .nilS, _ => []
  | .bool _, _ => []
  | .int _ _, _ => []
  | .str _, _ => []
  | .ro _, _ => []
  | .cell _, _ => []
  | .raw _, _ => []
  | .opt _ x, y => match y with | .opt _ y' => mkV x y' | _ => []
  | .mp _ _, _ => []
def mkL : List AV → List AV → List (Nat × Nat)
  | [], _ => []
  | x :: l, ys => match ys with | y :: l' => mkV x y ++ mkL l l' | [] => []
end
def mkEnv (s : S) : List (Nat × AV) → List (Nat × Nat)
  | [] => []
  | (r, v) :: l => mkV v (s.get r) ++ mkEnv s l
def mkLL : List (List AV) → List (List AV) → List (Nat × Nat)
  | [], _ => []
  | x :: l, ys => match ys with | y :: l' => mkL x y ++ mkLL l l' | [] => []
def mkR : RowV → RowV → List (Nat × Nat)
  | .objs _ l, .objs _ l' => mkLL l l'
  | _, _ => []
def mkItem : Item → Option Item → List (Nat × Nat)
  | .box _ cs, some (.box _ cs') => mkL cs cs'
  | .row _ r, some (.row _ r') => mkR r r'
  | .map ks vs, some (.map ks' vs') => mkL ks ks' ++ mkL vs vs'
  | .iter i _ _, some (.iter k _ _) => [(i, k)]
  | _, _ => []
def mkRows (l : List (Nat × Nat)) (rows : List (Nat × Item)) : List (Nat × Item) → List (Nat × Nat)
  | [] => []
  | (i, it) :: rest => mkItem it (lk rows (pm l i)) ++ mkRows l rows rest
def mkRen (s s' : S) : List (Nat × Nat) := mkEnv s s'.env ++ mkRows (mkEnv s s'.env) s.rows s'.rows

theorem csz_int (k : IntKind) (n : Int) : (Value.int k n).cells.size = 1 := rfl
theorem csz_bool (b : Bool) : (Value.bool b).cells.size = 1 := rfl
theorem csz_str (b : ByteArray) : (Value.string b).cells.size = 1 := rfl
theorem csz_slice (a : Option Addr) (n m : Nat) : (Value.slice a n m).cells.size = 1 := rfl
theorem csz_ptr (a : Option Addr) : (Value.pointer a).cells.size = 1 := rfl
theorem csz_agg (a : Array Value) : (Value.agg a).cells.size = a.size := rfl
theorem Ite.bool {b : Bool} {x y : Prop} (h1 : b = true → x) (h2 : b = false → y) : @Ite b ⟨x⟩ ⟨y⟩ := ⟨h1, h2⟩
/-- The pairs of names from b on. -/
def fromL (b : Nat) : List (Nat × Nat) → List (Nat × Nat)
  | [] => []
  | x :: l => if b ≤ x.1 then x :: fromL b l else fromL b l
theorem fromL_ge (b : Nat) : ∀ (l : List (Nat × Nat)) x, x ∈ fromL b l → b ≤ x.1
  | y :: l, x, h => by
    simp only [fromL] at h
    split at h
    · rename_i hb
      cases List.mem_cons.1 h with
      | inl e => subst e; exact hb
      | inr e => exact fromL_ge b l x e
    · exact fromL_ge b l x h
section
variable {w0 : World} {T0 : Bs} {b0 : Nat}
theorem Ent.auto0 {s s' : S} (hn : s'.n = s.n) (he : envOk (pm (mkRen s s')) s s'.next s'.env) (hr : subOk (pm (mkRen s s')) s.rows s'.next s'.rows) : Ent w0 T0 0 s s' :=
  Ent.of (mkRen s s') hn (Nat.zero_le _) (fun _ _ => Nat.zero_le _) he hr
theorem Ent.autoK (k : Nat) {s s' : S} (hn : s'.n = s.n) (hk : k ≤ s'.next) (he : envOk (pm (fromL k (mkRen s s'))) s s'.next s'.env) (hr : subOk (pm (fromL k (mkRen s s'))) s.rows s'.next s'.rows) : Ent w0 T0 k s s' :=
  Ent.of _ hn hk (fromL_ge k _) he hr
/-- Where a function ends: names by looking at the result. -/
def retV (s : S) : ResultVar → AV
  | .tmp t => s.ev (.tmp t)
  | .cell t _ => match s.get t with
    | .ptr i off => match lk s.rows i with
      | some (.box _ cs) => .agg (cs.drop off)
      | _ => .dead
    | _ => .dead
def mkRet (s : S) (res : List ResultVar) (out : AV) (rows : List (Nat × Item)) : List (Nat × Nat) :=
  mkV out (tupOf (res.map (retV s))) ++ mkRows (mkV out (tupOf (res.map (retV s)))) s.rows rows
theorem Ret.auto {P : Program} (N : Nat) {res : List ResultVar} {out : AV} {rows : List (Nat × Item)} {s : S} (h : rets P s res (fun vs => tupOf vs = ren (pm (mkRet s res out rows)) out)) (hb : Fv.below N out = true) (hr : subOk (pm (mkRet s res out rows)) s.rows N rows) : Ret P w0 T0 res out rows s :=
  Ret.of _ N h hb hr
end
end Go.Fv

/-
  The set by which a walk is reckoned.
-/
namespace Go.Fv
set_option linter.unusedSectionVars false
theorem band_dec (p q : Prop) [Decidable p] [Decidable q] : (decide p && decide q) = decide (p ∧ q) := by simp
theorem bor_dec (p q : Prop) [Decidable p] [Decidable q] : (decide p || decide q) = decide (p ∨ q) := by simp
theorem bnot_dec (p : Prop) [Decidable p] : (!decide p) = decide (¬ p) := by simp
attribute [go_sem] not_true_eq_false or_true true_or false_or or_false and_false false_and or_self and_self Array.toList_replicate List.map_replicate List.mem_replicate not_false_eq_true ne_eq Value.oneCell' maxLen_eq Nat.zero_le band_dec bor_dec bnot_dec AV.int.injEq AV.bool.injEq vcCode thenS blockS knowB vcOps vcGo vcOp vcMove vcPick vcExtract vcMakeFunc vcBox vcAlloc vcLoad vcNil vcFieldAddr vcIndexAddr vcStore vcMake vcPut vcCallOp vcLen vcAppend vcBin vcBinX vcPtrN ptrN kds kd eqB eq1 vcUn vcConv vcIndex vcField vcMM minmax vcSlice viewSlot vcSlData vcUStr vcAppendN vcBuildSlice intsOf vcBuild vcTree S.ev S.get S.set S.add S.swap S.after shRows lk put del evs opndOk strConstsOk ofV inKB ren renL frz frzL addElem addElems subRow knowInt ldCells aggB bnd bndOk zrow elemA setElem spl appRow rowOfAV boxable S.upd idxFrom bparts placeOf bytesOf noId noIdL below belowL RowV.len RowV.sz Item.ren csz_int csz_bool csz_str csz_slice csz_ptr csz_agg List.length_append List.length_set List.length_replicate List.length_nil List.mem_cons List.not_mem_nil or_false forall_eq forall_eq_or_imp implies_true false_implies eq_self List.set_cons_zero List.set_cons_succ List.drop_zero List.drop_succ_cons List.take_succ_cons List.take_zero List.size_toArray List.length_cons List.map_cons List.map_nil List.replicate_zero List.nil_append List.cons_append List.append_nil List.reverse_nil List.zipIdx_cons List.zipIdx_nil Array.toList_empty List.getElem?_cons_zero List.getElem?_cons_succ List.getElem?_toArray Option.bind_some Option.map_some Option.getD_some Nat.one_mul decide_true decide_false Bool.and_self Bool.true_and Bool.false_and Bool.and_true Bool.and_false Bool.not_true Bool.not_false cond_true cond_false Ite_true Ite_false and_true true_and and_self Chk_true Bool.not_eq_true' Nat.zero_add Nat.add_zero Int.toNat_natCast Int.ofNat_eq_natCast pkC pkV peelE peelC peel gOps gBin gLen gHead gCell gVal gPick pickOk vcWhen LetW_eq Chk_r Asm_r Bool.and_eq_true decide_eq_true_eq Bool.cond_true_left Bool.cond_false_right imp_self Bool.not_eq_true decide_eq_false_iff_not Decidable.not_not Bool.not_not InK_i64 InK_u8 Int.natCast_zero
end Go.Fv

/-
  Calls whose results are only read by the caller: they stand as data, and the caller's state stays as it is.
-/
namespace Go.Fv
set_option linter.unusedSectionVars false
open Go.RowKit
set_option linter.unusedVariables false
set_option linter.unusedSimpArgs false
set_option linter.unnecessarySimpa false

def outOk (rows : List (Nat × Item)) (x y : AV) : Prop := match x with
  | .tup l => ∃ l', argOkL rows l l' ∧ y = .tup l'
  | x => argOk rows x y

section
variable {P : Program} {w0 : World} {T0 : Bs}

theorem OutOk.ro {T : Nat → Prop} {B : Nat} {w : World} {out out' : AV} {rows : List (Nat × Item)} {v : Value} (h : OutOk T B w out rows v) (ho : outOk rows out out') : OutOk T B w out' [] v := by
  obtain ⟨m, N, hr, hrows, hsep⟩ := h
  have hblk : ∀ i it, lk rows i = some it → ∀ b, blk (m i) = some b → B ≤ b := fun i it hi b hb => ((hrows i it hi).2.blk b hb).1
  have hl : Lend w (⟨w, allow (bs T) B m rows, m, N⟩ : Ctx) rows (allow (bs T) B (fun _ => undef) []) :=
    { hw := rfl, t := fun b hb => ⟨hb.1, fun i it hi => by simp [lk] at hi⟩,
      own := fun i e r hi => by
        obtain ⟨n, cells, hc, hn, hq, _⟩ := (hrows i _ hi).2
        exact ⟨fun b hb => ⟨.inl (hblk i _ hi b hb), fun i it hi => by simp [lk] at hi⟩, n, cells, hc, hn, hq⟩,
      box := fun i e cs hi => by
        obtain ⟨g, vs, hv, hg, hl, hh⟩ := (hrows i _ hi).2
        exact ⟨g, vs, hv, ⟨.inl hg, fun i it hi => by simp [lk] at hi⟩, hl, hh⟩,
      map := fun i ks vs hi => by
        obtain ⟨g, es, clock, hv, hg, h1, h2, h3, h4, hh⟩ := (hrows i _ hi).2
        exact ⟨g, es, clock, hv, ⟨.inl hg, fun i it hi => by simp [lk] at hi⟩, h1, h2, h3, h4, hh⟩ }
  refine ⟨fun _ => undef, 0, ?_, fun i it hi => by simp [lk] at hi, fun i j it jt b hi => by simp [lk] at hi⟩
  unfold outOk at ho
  split at ho
  · obtain ⟨l', ha, rfl⟩ := ho
    cases hr with
    | tup _ vs hv => exact .tup _ _ (argOkT_rv hl _ ha hv)
  · exact argOkN_rv hl 6 _ ho hr

theorem OutOk.noid {T : Nat → Prop} {B : Nat} {w : World} {out : AV} {v : Value} (h : OutOk T B w out [] v) : OutOk T B w out [] v := h

/-- A CALL BY A CONTRACT whose results share nothing, and are only read. -/
theorem VcCall.ro [hG : GlB P w0 T0] {f : Nat} {args args' : List AV} {out : AV} (out' : AV) {rows : List (Nat × Item)} {s : S} {K : AV → S → Prop} (h : FnFr P f args' out rows) (ha : argOkL s.rows args args') (ho : outOk rows out out') (hn : noId out' = true)
    (hk : K out' s) : @VcCall P w0 T0 f args s ⟨K⟩ := by
  have h' : FnFr P f args' out' [] := ⟨h.1, fun w T vals hgl hv => (h.2 w T vals hgl hv).mono fun e w' ⟨v, he, hb, hq⟩ => ⟨v, he, hb, hq.ro ho⟩⟩
  refine VcCall.fr h' ha 0 (noId_below 0 _ hn) trivial ?_
  rw [noId_ren _ _ hn]
  exact hk

theorem FnOk.ro {f : Nat} {args : List AV} {out out' : AV} {rows : List (Nat × Item)} (h : FnOk P f args out rows) (ho : outOk rows out out') : FnOk P f args out' [] :=
  ⟨h.1, fun w T vals hgl hv => (h.2 w T vals hgl hv).mono fun e w' ⟨v, he, hb, hq⟩ => ⟨v, he, hb, hq.ro ho⟩⟩
/-- A CALL BY A CONTRACT whose results may share memory with the arguments, none of which is owned; the results are only read. -/
theorem VcCall.ros [hG : GlB P w0 T0] {f : Nat} {args args' : List AV} {out : AV} (out' : AV) {rows : List (Nat × Item)} {s : S} {K : AV → S → Prop} (h : FnOk P f args' out rows) (ha : argOkL [] args args') (ho : outOk rows out out') (hn : noId out' = true)
    (hk : K out' s) : @VcCall P w0 T0 f args s ⟨K⟩ := by
  refine VcCall.sh s.rows (h.ro ho) [] ha (fun _ _ h => h) (fun i it hi => by simp [lk] at hi) 0 (noId_below 0 _ hn) trivial ?_
  rw [noId_ren _ _ hn]
  exact hk
/-- The same, and its new rows are the caller's own. -/
theorem VcCall.shr [hG : GlB P w0 T0] {f : Nat} {args args' : List AV} {out : AV} {rows : List (Nat × Item)} {s : S} {K : AV → S → Prop} (h : FnOk P f args' out rows) (ha : argOkL [] args args') (N : Nat) (hN : Fv.below N out = true) (hNr : rowsB N rows)
    (hk : K (ren (fun j => s.next + j) out) (s.after s.rows N rows)) : @VcCall P w0 T0 f args s ⟨K⟩ :=
  VcCall.sh s.rows h [] ha (fun _ _ h => h) (fun i it hi => by simp [lk] at hi) N hN hNr hk
end
end Go.Fv

/-
  A nil slice in a box, as an owned row without elements.
-/
namespace Go.Fv
set_option linter.unusedSectionVars false
open Go.RowKit
set_option linter.unusedVariables false
set_option linter.unusedSimpArgs false
set_option linter.unnecessarySimpa false

section
variable {P : Program} {w0 : World} {T0 : Bs} {b0 : Nat}

theorem RvL.setNil {c : Ctx} {x : AV} (hx : Rv c x (.slice none 0 0)) : ∀ {cs : List AV} {vs : List Value} {j : Nat}, RvL c cs vs → cs[j]? = some .nilS → RvL c (cs.set j x) vs
  | _, _, j, .nil, h => by simp at h
  | _, _, 0, .cons y v l vs hy h1 ht, h => by
    simp at h; subst h
    cases hy
    exact .cons _ _ _ _ hx h1 ht
  | _, _, j + 1, .cons y v l vs hy h1 ht, h => by
    simp at h
    exact .cons _ _ _ _ hy h1 (ht.setNil hx h)

/-- A nil slice in a box is an owned row without elements. -/
theorem Ent.nilBox {s : S} (i : Nat) {t : TypeId} {cs : List AV} (j : Nat) (e : TypeId) {z : Value} (hz : ElemZ P e z) (hi : lk s.rows i = some (.box t cs)) (hj : cs[j]? = some .nilS) :
    Ent w0 T0 b0 s { s with rows := put ((s.next, .row e (zrow z 0)) :: s.rows) i (.box t (cs.set j (.own s.next))), next := s.next + 1 } := by
  rintro H a w hH ⟨m, hm⟩
  have hlt := (hm.rows i _ hi).1
  have h1 := new_nil hm hz
  have hi' : lk (s.add (.row e (zrow z 0))).rows i = some (.box t cs) := by
    simp only [S.add, lk]
    rw [if_neg (by omega)]; exact hi
  have h0 := (h1.rows i _ hi').2
  have h2 := h1.upd h1.below hi' (fun _ _ _ => rfl) (.box t (cs.set j (.own s.next))) (fun c hle hw hmm hN => ?_)
  · exact ⟨_, h2.unhold⟩
  · obtain ⟨g, vs, hv, hg, hl, hh⟩ := h0
    refine ⟨g, vs, hv, hg, ?_, by rw [hw]; exact hh⟩
    exact (hl.mono hle).setNil ((h1.held _ (.head _)).mono hle) hj
end
end Go.Fv

/-
  What a function value has captured, where nothing of it is the caller's own memory.
-/
namespace Go.Fv
set_option linter.unusedSectionVars false
open Go.RowKit
set_option linter.unusedVariables false

def lendB : Nat → AV → Bool
  | 0, _ => false
  | n + 1, x => match x with
    | .agg cs => cs.all (lendB n)
    | .fn _ cs => cs.all (lendB n)
    | .ro _ => true
    | .bool _ => true
    | .int _ _ => true
    | .str _ => true
    | .raw _ => true
    | .cell _ => true
    | .nilS => true
    | .mp _ _ => true
    | _ => false

class CapsOk (caps : List AV) : Prop where
  ok : caps.all (lendB 5) = true
section
variable {caps : List AV} [h : CapsOk caps]
end
mutual
theorem mkV_noId : ∀ (x y : AV), noId x = true → mkV x y = []
  | .own _, _, h => by simp [noId] at h
  | .ptr _ _, _, h => by simp [noId] at h
  | .elt _ _ _ _, _, h => by simp [noId] at h
  | .pre _ _, _, h => by simp [noId] at h
  | .agg l, y, h => by simp only [mkV]; split <;> first | exact mkL_noId l _ (by simpa [noId] using h) | rfl
  | .tup l, y, h => by simp only [mkV]; split <;> first | exact mkL_noId l _ (by simpa [noId] using h) | rfl
  | .fn _ l, y, h => by simp only [mkV]; split <;> first | exact mkL_noId l _ (by simpa [noId] using h) | rfl
  | .dead, _, _ => rfl
  | .nilS, _, _ => rfl
  | .bool _, _, _ => rfl
  | .int _ _, _, _ => rfl
  | .str _, _, _ => rfl
  | .ro _, _, _ => rfl
  | .cell _, _, _ => rfl
  | .raw _, _, _ => rfl
  | .mp _ _, _, _ => rfl
  | .opt _ x, y, h => by simp only [mkV]; split <;> first | exact mkV_noId x _ (by simpa [noId] using h) | rfl
theorem mkL_noId : ∀ (x y : List AV), noIdL x = true → mkL x y = []
  | [], _, _ => rfl
  | x :: l, y, h => by
    simp only [noIdL, Bool.and_eq_true] at h
    simp only [mkL]; split
    · rw [mkV_noId x _ h.1, mkL_noId l _ h.2]; rfl
    · rfl
end
theorem mkLL_noId : ∀ (x y : List (List AV)), x.all noIdL = true → mkLL x y = []
  | [], _, _ => rfl
  | x :: l, y, h => by
    simp only [List.all_cons, Bool.and_eq_true] at h
    simp only [mkLL]; split
    · rw [mkL_noId x _ h.1, mkLL_noId l _ h.2]; rfl
    · rfl
theorem mkR_ok (r r' : RowV) [h : RowNoId r] : mkR r r' = [] := by
  have := h.ok
  cases r <;> cases r' <;> first | rfl | exact mkLL_noId _ _ this
end Go.Fv

/-
  The walk of drawn regions, in the set.
-/
namespace Go.Fv
set_option linter.unusedSectionVars false
attribute [go_sem] vcConvX appTy vcLookup lookK vcMakeMap vcMapUpd vcMapEnt entK vcEntStore vcRange vcNext vcEntry List.getLast?_concat mapOf gLook KeysT_nil gMM Bool.false_eq_true true_implies LetW_q vcLex gGo_some bGo_true bGo_false eGo_mk qGo_val qGo_lin qGo_call lxPut lxEnv dstOk putS qCond qRes rOps peelV onlyE onlyP gd qVc redo1 redo accPut ksOf peelC esMem isLin Option.toList_some Option.toList_none
end Go.Fv

/-
  Maps whose keys and values are told by lists of plain data.
-/
namespace Go.Fv
set_option linter.unusedSectionVars false
set_option linter.unusedVariables false
/-- Where a key stands in a list of keys. -/
def ixOf {α : Type} [DecidableEq α] : List α → α → Option Nat
  | [], _ => none
  | x :: l, k => if x = k then some 0 else (ixOf l k).map (· + 1)
theorem keyIdx_map {α : Type} [DecidableEq α] {f : α → AV} (hf : ∀ a b, eqKey (f a) (f b) = decide (a = b)) (x : α) : ∀ l : List α, keyIdx (l.map f) (f x) = ixOf l x
  | [] => rfl
  | y :: l => by simp only [List.map_cons, keyIdx, ixOf, hf, keyIdx_map hf x l, decide_eq_true_eq]
theorem keyIdx_strs (l : List (List UInt8)) (n : List UInt8) : keyIdx (l.map .str) (.str n) = ixOf l n := keyIdx_map (fun a b => by simp [eqKey]) n l
theorem ixOf_some {α : Type} [DecidableEq α] : ∀ {l : List α} {x : α} {j : Nat}, ixOf l x = some j → l[j]? = some x
  | y :: l, x, j, h => by
    simp only [ixOf] at h
    split at h
    · rename_i e; cases h; simp [e]
    · simp only [Option.map_eq_some_iff] at h
      obtain ⟨i, hi, rfl⟩ := h
      simpa using ixOf_some hi
theorem ixOf_none {α : Type} [DecidableEq α] : ∀ {l : List α} {x : α}, ixOf l x = none ↔ x ∉ l
  | [], x => by simp [ixOf]
  | y :: l, x => by
    simp only [ixOf]
    split
    · rename_i e; simp [e]
    · rename_i e
      rw [Option.map_eq_none_iff, ixOf_none, List.mem_cons, not_or]
      exact ⟨fun h => ⟨fun e' => e e'.symm, h⟩, fun h => h.2⟩
/-- A set: keys alone, each with the value true. -/
theorem getB_set {α : Type} [DecidableEq α] {f : α → AV} (hf : ∀ a b, eqKey (f a) (f b) = decide (a = b)) (l : List α) (x : α) : getB (l.map f) (l.map fun _ => .bool true) (f x) = decide (x ∈ l) := by
  unfold getB getV
  rw [keyIdx_map hf]
  cases h : ixOf l x with
  | none => simp [ixOf_none.1 h]
  | some j => simp [List.mem_of_getElem? (ixOf_some h), ixOf_some h]
/-- What is laid into a set. -/
def insE {α : Type} [DecidableEq α] (l : List α) (x : α) : List α := if x ∈ l then l else l ++ [x]
theorem updKs_set {α : Type} [DecidableEq α] {f : α → AV} (hf : ∀ a b, eqKey (f a) (f b) = decide (a = b)) (l : List α) (x : α) : updKs (l.map f) (f x) = (insE l x).map f := by
  unfold updKs insE
  rw [keyIdx_map hf]
  cases h : ixOf l x with
  | none => simp [ixOf_none.1 h]
  | some j => simp [List.mem_of_getElem? (ixOf_some h)]
theorem set_const {α β : Type} (c : β) : ∀ (l : List α) (j : Nat), (l.map fun _ => c).set j c = l.map fun _ => c
  | [], _ => rfl
  | _ :: l, 0 => rfl
  | _ :: l, j + 1 => by simp [set_const c l j]
theorem updVs_set {α : Type} [DecidableEq α] {f : α → AV} (hf : ∀ a b, eqKey (f a) (f b) = decide (a = b)) (l : List α) (x : α) : updVs (l.map f) (l.map fun _ => .bool true) (f x) (.bool true) = (insE l x).map fun _ => .bool true := by
  unfold updVs insE
  rw [keyIdx_map hf]
  cases h : ixOf l x with
  | none => simp [ixOf_none.1 h]
  | some j => simp [List.mem_of_getElem? (ixOf_some h), set_const]
theorem updKs_strs (l : List (List UInt8)) (n : List UInt8) : updKs (l.map .str) (.str n) = (insE l n).map .str := updKs_set (fun a b => by simp [eqKey]) l n
theorem all_isB {α : Type} (l : List α) (f : α → Bool) : (l.map fun x => AV.bool (f x)).all isB = true := by simp [isB]
theorem renL_kmap {α : Type} (p : Nat → Nat) {f : α → AV} (hf : ∀ a, noId (f a) = true) (l : List α) : renL p (l.map f) = l.map f := by
  refine noIdL_ren p _ ?_
  induction l with
  | nil => rfl
  | cons x l ih => simp [noIdL, hf, ih]
theorem belowL_kmap {α : Type} (n : Nat) {f : α → AV} (hf : ∀ a, noId (f a) = true) (l : List α) : belowL n (l.map f) = true := by
  refine noIdL_below n _ ?_
  induction l with
  | nil => rfl
  | cons x l ih => simp [noIdL, hf, ih]
theorem noIdL_kmap {α : Type} {f : α → AV} (hf : ∀ a, noId (f a) = true) (l : List α) : noIdL (l.map f) = true := by
  induction l with
  | nil => rfl
  | cons x l ih => simp [noIdL, hf, ih]
theorem mkL_kmap {α : Type} {f : α → AV} (hf : ∀ a, noId (f a) = true) (l : List α) (y : List AV) : mkL (l.map f) y = [] := mkL_noId _ y (noIdL_kmap hf l)
theorem renL_boolf {α : Type} (p : Nat → Nat) (l : List α) (f : α → Bool) : renL p (l.map fun x => .bool (f x)) = l.map fun x => .bool (f x) := renL_kmap p (fun _ => rfl) l
theorem belowL_boolf {α : Type} (n : Nat) (l : List α) (f : α → Bool) : belowL n (l.map fun x => .bool (f x)) = true := belowL_kmap n (fun _ => rfl) l
theorem mkL_boolf {α : Type} (l : List α) (f : α → Bool) (y : List AV) : mkL (l.map fun x => .bool (f x)) y = [] := mkL_kmap (fun _ => rfl) l y
attribute [simp] renL_boolf belowL_boolf mkL_boolf
attribute [go_sem] renL_boolf belowL_boolf all_isB updKs_strs keyIdx_strs
end Go.Fv

/-
  Small facts about lists.
-/
namespace Go.Fv
set_option linter.unusedSectionVars false
theorem getD_lt {α : Type} {l : List α} {i : Nat} {d : α} (h : i < l.length) : l.getD i d = l[i] := by simp [List.getD, h]
theorem renL_bools (p : Nat → Nat) : ∀ l : List Bool, renL p (l.map .bool) = l.map .bool
  | [] => rfl
  | b :: l => by simp only [List.map_cons, renL, ren]; rw [renL_bools p l]
theorem belowL_bools (n : Nat) : ∀ l : List Bool, belowL n (l.map .bool) = true
  | [] => rfl
  | b :: l => by simp only [List.map_cons, belowL, below, Bool.true_and]; exact belowL_bools n l
theorem mkL_bools : ∀ (l : List Bool) (y : List AV), mkL (l.map .bool) y = []
  | [], _ => by simp [mkL]
  | b :: l, y => by
    simp only [List.map_cons, mkL]
    split
    · simp only [mkV, List.nil_append]; exact mkL_bools l _
    · rfl
theorem allOk_bools (rows : List (Nat × Item)) (n : Nat) : ∀ l : List Bool, allOk (argOkN rows (n + 1)) (l.map .bool) (l.map .bool)
  | [] => rfl
  | b :: l => ⟨.bool b, l.map .bool, by simp [argOkN], allOk_bools rows n l, rfl⟩
theorem set_bools (l : List Bool) (i : Nat) (b : Bool) : (l.map AV.bool).set i (.bool b) = (l.set i b).map .bool := by rw [List.map_set]
theorem noRoL_bools : ∀ l : List Bool, noRoL (l.map .bool) = true
  | [] => rfl
  | b :: l => by simp only [List.map_cons, noRoL, noRo, Bool.true_and]; exact noRoL_bools l
theorem spl_eq : ∀ (cs bs : List AV) (off : Nat), off + cs.length ≤ bs.length → spl bs off cs = bs.take off ++ cs ++ bs.drop (off + cs.length)
  | [], bs, off, _ => by simp [spl]
  | c :: cs, bs, off, h => by
    simp only [List.length_cons] at h
    rw [spl, spl_eq cs _ _ (by simp; omega), List.take_set, List.drop_set, if_pos (by omega)]
    rw [List.take_succ_eq_append_getElem (by omega), List.set_append_right _ _ (by simp; omega)]
    have e : off - (List.take off bs).length = 0 := by simp; omega
    rw [e]
    simp only [List.set_cons_zero, List.length_cons, List.append_assoc, List.cons_append, List.nil_append]
    have e2 : off + 1 + cs.length = off + (cs.length + 1) := by omega
    rw [e2]
theorem spl_all {bs cs : List AV} (h : cs.length = bs.length) : spl bs 0 cs = cs := by
  rw [spl_eq _ _ _ (by omega)]; simp [h]
attribute [simp] noIdR_ok renR_ok belowR_ok mkR_ok
attribute [go_sem] frzS noIdR_ok renR_ok belowR_ok renL_bools belowL_bools List.length_map Nat.mul_one set_bools
end Go.Fv
