/-
  A part of the proof of the claim: walks over the program's functions and the plain laws that these need. No condition of its own.
-/
import Derived.Test.YtfebnhmnkgnofaaDoorFvLexB
import Derived.Test.YtfebnhmnkgnofaaDoorFvLin
namespace Go.Fv
open Go.RowKit
set_option linter.unusedVariables false
set_option linter.unusedSimpArgs false
set_option linter.unnecessarySimpa false

section
variable {P : Program} {w0 : World} {T0 : Nat → Prop} {ops : Array Oper} {es : List Nat} {tb : List (Nat × List Nat)} {T : List Nat}

structure LexEnd (P : Program) (w0 : World) (T0 : Nat → Prop) (ops : Array Oper) (es : List Nat) (tb : List (Nat × List Nat)) (s0 : S) (hs0 : List HpS) (Q : S → Prop) (vs : List AV) (hs : List HpS) (s : S) : Prop where
  q : Q s
  n : s.n = s0.n
  len : hs.length = ownN es ops.size + 1
  last : hs[ownN es ops.size]? = some (s.rows, s.next)
  get : ∀ r, s.get r = lexG ops s0 vs ops.size r
  done : LexDone P w0 T0 ops es s0 ops.size vs hs
  re : ∀ (j : Nat) (o : Oper), ops[j]? = some o → es.elem j = false → ∀ k, k ∈ ksOf tb j → ∀ h, hs[k]? = some h → QS P w0 T0 ops o s0.n (lexG ops s0 vs j) h h (vs.getD j .dead)
  pre : ∀ (k : Nat) (h : HpS), hs0[k]? = some h → hs[k]? = some h

theorem LexRe.step {s0 : S} {i : Nat} {vs : List AV} {v : AV} {acc acc' : List Acc} {o : Oper} (hre : LexRe P w0 T0 ops es tb s0 i vs acc) (hlen : vs.length = i) (hi : ops[i]? = some o) (hsub : ∀ x, x ∈ acc → x ∈ acc')
    (hnew : es.elem i = false → ∀ k, k ∈ ksOf tb i → (∀ h, QS P w0 T0 ops o s0.n (lexG ops s0 vs i) h h v) ∨ ∃ x, x ∈ acc' ∧ x.ks = ksOf tb i ∧ ∀ h, redoC P w0 T0 s0.n x h → QS P w0 T0 ops o s0.n (lexG ops s0 vs i) h h v) :
    LexRe P w0 T0 ops es tb s0 (i + 1) (vs ++ [v]) acc' := by
  intro j oj hj hoj hej k hk
  by_cases e : j = i
  · subst e
    rw [hi] at hoj; cases hoj
    have hv : (vs ++ [v]).getD j .dead = v := by rw [← hlen]; exact getD_app_last
    rcases hnew hej k hk with h | ⟨x, hx, hks, h⟩
    · exact .inl fun h' => by rw [hv]; exact (h h').congr fun r _ => lexG_app (by omega) r
    · exact .inr ⟨x, hx, hks, fun h' hc => by rw [hv]; exact (h h' hc).congr fun r _ => lexG_app (by omega) r⟩
  · rcases hre j oj (by omega) hoj hej k hk with h | ⟨x, hx, hks, h⟩
    · exact .inl fun h' => by rw [getD_app (by omega)]; exact (h h').congr fun r _ => lexG_app (by omega) r
    · exact .inr ⟨x, hsub x hx, hks, fun h' hc => by rw [getD_app (by omega)]; exact (h h' hc).congr fun r _ => lexG_app (by omega) r⟩

theorem vcLex_ext (hok : LexOk ops es tb T) {s0 : S} : ∀ (l : List Oper) (i : Nat) (acc : List Acc) (hs : List HpS) (s : S) (vs : List AV) (Q : S → Prop), ops.toList.drop i = l → i ≤ ops.size → vs.length = i → hs.length = ownN es i + 1 → hs[ownN es i]? = some (s.rows, s.next) → s.n = s0.n →
    (∀ r, s.get r = lexG ops s0 vs i r) → LexDone P w0 T0 ops es s0 i vs hs → LexRe P w0 T0 ops es tb s0 i vs acc → vcLex P w0 T0 ops es tb l i acc hs s Q → ∃ vs' hs' sf, LexEnd P w0 T0 ops es tb s0 hs Q vs' hs' sf := by
  intro l
  induction l with
  | nil =>
    intro i acc hs s vs Q hdr hile hlen hhl hcur hn hget hd hre h
    have hi : i = ops.size := by
      have := List.drop_eq_nil_iff.1 hdr
      simp at this; omega
    subst hi
    obtain ⟨hredo, hq⟩ := h
    refine ⟨vs, hs, s, hq, hn, hhl, hcur, hget, hd, ?_, fun _ _ h => h⟩
    intro j o hj he k hk h hh
    rcases hre j o (Array.getElem?_eq_some_iff.1 hj).1 hj he k hk with h0 | ⟨x, hx, hks, h0⟩
    · exact h0 h
    · obtain ⟨h', hh', hc⟩ := redo_spec _ hredo x hx k (by rw [hks]; exact hk)
      rw [hh] at hh'; cases hh'
      rw [hn] at hc
      exact h0 h hc
  | cons o l ih =>
    intro i acc hs s vs Q hdr hile hlen hhl hcur hn hget hd hre h
    have hi : ops[i]? = some o := by
      have h1 : (ops.toList.drop i)[0]? = some o := by rw [hdr]; rfl
      rw [List.getElem?_drop] at h1
      simpa using h1
    have hilt : i < ops.size := (Array.getElem?_eq_some_iff.1 hi).1
    have hdr' : ops.toList.drop (i + 1) = l := by
      have : (ops.toList.drop i).drop 1 = l := by rw [hdr]; rfl
      rwa [List.drop_drop] at this
    have hrd := hok.reads i o hi
    have hgetQ : ∀ {h h' : HpS} {v : AV}, QS P w0 T0 ops o s.n s.get h h' v → QS P w0 T0 ops o s0.n (lexG ops s0 vs i) h h' v := by
      intro h h' v hq
      rw [← hn]
      exact hq.congr fun r _ => (hget r).symm
    have hown1 : es.elem i = false → ownN es (i + 1) = ownN es i := fun e => by rw [ownN_succ, e]; rfl
    have hown2 : es.elem i = true → ownN es (i + 1) = ownN es i + 1 := fun e => by rw [ownN_succ, e]; rfl
    -- a quiet operation
    have quiet : es.elem i = false → ∀ (v : AV) (acc' : List Acc), (∀ x, x ∈ acc → x ∈ acc') → QS P w0 T0 ops o s.n s.get (s.rows, s.next) (s.rows, s.next) v →
        (∀ k, k ∈ ksOf tb i → (∀ h, QS P w0 T0 ops o s.n s.get h h v) ∨ ∃ x, x ∈ acc' ∧ x.ks = ksOf tb i ∧ ∀ h, redoC P w0 T0 s0.n x h → QS P w0 T0 ops o s.n s.get h h v) →
        vcPut o.dst v s (fun s' => vcLex P w0 T0 ops es tb l (i + 1) acc' hs s' Q) → ∃ vs' hs' sf, LexEnd P w0 T0 ops es tb s0 hs Q vs' hs' sf := by
      intro he v acc' hsub hqs hnew hput
      obtain ⟨s', hk, hn', hr', hx', hg', hd'⟩ := lex_put hok hi hlen hn hget hd hhl (fun _ _ h => h) (fun _ => ⟨_, hcur, hgetQ hqs⟩) (fun e => by rw [he] at e; cases e) hput
      refine ih (i + 1) acc' hs s' (vs ++ [v]) Q hdr' hilt (by simp [hlen]) (by rw [hown1 he]; exact hhl) (by rw [hown1 he, hr', hx']; exact hcur) hn' hg' hd' ?_ hk
      refine hre.step hlen hi hsub fun _ k hk => ?_
      rcases hnew k hk with h0 | ⟨x, hx, hks, h0⟩
      · exact .inl fun h => hgetQ (h0 h)
      · exact .inr ⟨x, hx, hks, fun h hc => hgetQ (h0 h hc)⟩
    have eff : es.elem i = true → ∀ (v : AV) (R : List (Nat × Item)) (N : Nat), QS P w0 T0 ops o s.n s.get (s.rows, s.next) (R, N) v →
        vcPut o.dst v { s with rows := R, next := N } (fun s' => vcLex P w0 T0 ops es tb l (i + 1) acc (hs ++ [(R, N)]) s' Q) → ∃ vs' hs' sf, LexEnd P w0 T0 ops es tb s0 hs Q vs' hs' sf := by
      intro he v R N hqs hput
      have hpre : ∀ (k : Nat) (h : HpS), hs[k]? = some h → (hs ++ [(R, N)])[k]? = some h := by
        intro k h hk
        rw [List.getElem?_append_left (List.getElem?_eq_some_iff.1 hk).1]; exact hk
      have hlast : (hs ++ [(R, N)])[ownN es i + 1]? = some (R, N) := by
        rw [← hhl]; simp
      obtain ⟨s', hk, hn', hr', hx', hg', hd'⟩ := lex_put (s := { s with rows := R, next := N }) hok hi hlen hn hget hd hhl hpre (fun e => by rw [he] at e; cases e) (fun _ => ⟨_, _, hpre _ _ hcur, hlast, hgetQ hqs⟩) hput
      obtain ⟨vs', hs', sf, hend⟩ := ih (i + 1) acc (hs ++ [(R, N)]) s' (vs ++ [v]) Q hdr' hilt (by simp [hlen]) (by rw [hown2 he]; simp [hhl]) (by rw [hown2 he, hr', hx']; exact hlast) hn' hg' hd'
        (hre.step hlen hi (fun _ h => h) fun e => by rw [he] at e; cases e) hk
      exact ⟨vs', hs', sf, { hend with pre := fun k h hk => hend.pre k h (hpre k h hk) }⟩
    unfold vcLex at h
    cases hg : gd ops s o with
    | none => rw [hg] at h; exact h.elim
    | some g =>
      rw [hg] at h
      simp only [gGo] at h
      rw [esMem_eq] at h
      cases he : es.elem i with
      | true =>
        rw [he] at h
        simp only [bGo] at h
        cases g with
        | none =>
          dsimp only at h
          have hx : ∃ v R N, vcOp P w0 T0 o ⟨s.n, onlyE s (rOps o.op), s.rows, s.next⟩ (fun r s' => r = v ∧ s'.rows = R ∧ s'.next = N) ∧ vcPut o.dst v { s with rows := R, next := N } (fun s' => vcLex P w0 T0 ops es tb l (i + 1) acc (hs ++ [(R, N)]) s' Q) := by
            cases hl : isLin o.op with
            | false =>
              rw [hl] at h
              obtain ⟨v, R, N, h1, h2, h3⟩ := h
              exact ⟨v, R, N, h1, vcPut_of h2 h3⟩
            | true =>
              rw [hl] at h
              obtain ⟨v, t, ⟨h2, h3⟩, hall⟩ := lin_op hl _ h
              exact ⟨v, t.rows, t.next, hall _ ⟨rfl, rfl, rfl⟩, vcPut_of h2 h3⟩
          obtain ⟨v, R, N, hA, hB⟩ := hx
          exact eff he v R N (QS.plain (h := (s.rows, s.next)) (h' := (R, N)) (gd_none hg) (qVc_opE (h := (s.rows, s.next)) hrd hA)) hB
        | some c =>
          dsimp only at h
          cases c with
          | true =>
            obtain ⟨v, R, N, ⟨hpc, hA⟩, h2, h3⟩ := h.1 rfl
            exact eff he (.opt true v) R N (QS.guarded (h := (s.rows, s.next)) (h' := (R, N)) hg (fun _ => qVc_opP (h := (s.rows, s.next)) hrd hpc hA) (fun e => by cases e)) (vcPut_of h2 h3)
          | false =>
            obtain ⟨h2, h3⟩ := h.2 rfl
            exact eff he (.opt false (.bool false)) s.rows s.next (QS.guarded (h := (s.rows, s.next)) (h' := (s.rows, s.next)) hg (fun e => by cases e) (fun _ => ⟨rfl, rfl⟩)) (vcPut_of h2 h3)
      | false =>
        rw [he] at h
        simp only [bGo] at h
        have gen : ∀ v, qCond P w0 T0 o g s v → vcPut o.dst (lxPut g v) s (fun s' => vcLex P w0 T0 ops es tb l (i + 1) (accPut (ksOf tb i) ⟨o, g, lxEnv g s (rOps o.op), v, ksOf tb i⟩ acc) hs s' Q) → ∃ vs' hs' sf, LexEnd P w0 T0 ops es tb s0 hs Q vs' hs' sf := by
          intro v hA hput
          cases g with
          | none =>
            refine quiet he v _ (fun x hx => mem_accPut hx) (QS.plain (h := (s.rows, s.next)) (h' := (s.rows, s.next)) (gd_none hg) (qVc_opE (h := (s.rows, s.next)) hrd hA)) ?_ hput
            intro k hk
            refine .inr ⟨_, mem_accPut' hk, rfl, fun h hc => QS.plain (h := h) (h' := h) (gd_none hg) (qVc_opE (h := h) hrd ?_)⟩
            simp only [redoC, qVc] at hc
            rw [← hn] at hc
            exact hc
          | some c =>
            refine quiet he (.opt c v) _ (fun x hx => mem_accPut hx) (QS.guarded (h := (s.rows, s.next)) (h' := (s.rows, s.next)) hg (fun e => qVc_opP (h := (s.rows, s.next)) hrd (hA.2 e).1 (hA.2 e).2) (fun _ => ⟨rfl, hA.1⟩)) ?_ hput
            intro k hk
            refine .inr ⟨_, mem_accPut' hk, rfl, fun h hc => ?_⟩
            simp only [redoC, qVc] at hc
            rw [← hn] at hc
            exact QS.guarded (h := h) (h' := h) hg (fun e => qVc_opP (h := h) hrd (hA.2 e).1 (hc.2 e)) (fun _ => ⟨rfl, hc.1⟩)
        unfold qRes at h
        cases hp : gPick ⟨s.n, onlyE s (rOps o.op), s.rows, s.next⟩ o.op with
        | some pb =>
          obtain ⟨pre, b⟩ := pb
          rw [hp] at h
          cases g with
          | none =>
            obtain ⟨⟨h1, h2⟩, h3, h4⟩ := h
            have hall : ∀ h : HpS, QS P w0 T0 ops o s.n s.get h h (.bool b) := fun h => QS.plain (gd_none hg) (gPick_op hrd hp h1 h2)
            exact quiet he _ acc (fun _ h => h) (hall _) (fun _ _ => .inl hall) (vcPut_of h3 h4)
          | some c =>
            obtain ⟨h1, h3, h4⟩ := h
            have hall : ∀ h : HpS, QS P w0 T0 ops o s.n s.get h h (.opt c (.bool b)) := fun h => QS.guarded hg (fun e => gPick_op hrd hp (h1 e).1 (h1 e).2) (fun _ => ⟨rfl, rfl⟩)
            exact quiet he _ acc (fun _ h => h) (hall _) (fun _ _ => .inl hall) (vcPut_of h3 h4)
        | none =>
          rw [hp] at h
          dsimp only at h
          cases hv : gVal P ⟨s.n, lxEnv g s (rOps o.op), s.rows, s.next⟩ o.op with
          | some v =>
            rw [hv] at h
            obtain ⟨h1, h3, h4⟩ := h
            exact gen v h1 (vcPut_of h3 h4)
          | none =>
            rw [hv] at h
            have call : (∃ v, qCond P w0 T0 o g s v ∧ Chk (dstOk o.dst s.n) (vcLex P w0 T0 ops es tb l (i + 1) (accPut (ksOf tb i) ⟨o, g, lxEnv g s (rOps o.op), v, ksOf tb i⟩ acc) hs (putS o.dst (lxPut g v) s) Q)) → ∃ vs' hs' sf, LexEnd P w0 T0 ops es tb s0 hs Q vs' hs' sf := by
              rintro ⟨v, h1, h3, h4⟩
              exact gen v h1 (vcPut_of h3 h4)
            cases g with
            | some c => exact call h
            | none =>
              cases hl : isLin o.op with
              | false => rw [hl] at h; exact call h
              | true =>
                rw [hl] at h
                obtain ⟨v, t, ⟨⟨hr, hx⟩, h3, h4⟩, hall⟩ := lin_op hl _ h
                exact gen v (hall _ ⟨rfl, hr, hx⟩) (vcPut_of h3 h4)
end
end Go.Fv
