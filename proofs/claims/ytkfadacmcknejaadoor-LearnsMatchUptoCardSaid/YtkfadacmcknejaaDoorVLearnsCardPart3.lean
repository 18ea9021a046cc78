/-
  A part of the proof of the claim: walks over the program's functions and the plain laws that these need. No condition of its own.
-/
import Derived.Test.YtkfadacmcknejaaDoorVLearnsCardPart1
import Derived.Test.YtkfadacmcknejaaDoorVLearnsCardPart2
import Derived.Test.YtkfadacmcknejaaDoorFvPart9
import Derived.Test.YtkfadacmcknejaaDoorFvPart6
/- The reference's closure that puts tokens. -/
namespace Go.Fv.V
open Go Go.Proofs
set_option linter.unusedSimpArgs false
set_option linter.unusedVariables false
set_option linter.unnecessarySimpa false
set_option maxRecDepth 8000

def putB (btw t : Bytes) (w : Bool) : Bytes := if w = true then [] else btw ++ t
def putO (out : List Tok) (btw t : Bytes) (w : Bool) : List Tok := if w = true then flush out btw ++ [(t, true)] else out

set_option maxHeartbeats 2000000 in
theorem put_ok (out : List Tok) (btw t : Bytes) (w : Bool) (hl : out.length ≤ 1000000000) (hb : btw.length ≤ 1000000000) (ht : t.length ≤ 1000000000) :
    FnIO Tryd.prog 49 [.str t, .bool w, .ptr 0 0, .ptr 1 0] [(0, .box 9 [.str btw]), (1, .box 48 [.own 2]), (2, .row 51 (tkR out))] 3 (.tup [])
      [(0, .box 9 [.str (putB btw t w)]), (1, .box 48 [.own 3]), (3, .row 51 (tkR (putO out btw t w)))] := by
  refine FnIO.of_vc Tryd.func49 rfl (by decide) (by simp [Tryd.f49]) covA3 [] rfl fun w0 T0 _ => ?_
  simp only [Tryd.f49, argEnv]
  cases w with
  | false =>
    have e1 : putB btw t false = btw ++ t := rfl
    have e2 : putO out btw t false = out := rfl
    rw [e1, e2]
    (repeat' first | with_reducible (first | intro _ | refine rc ?_ | refine rl ?_ | refine rh ?_ | refine rt ?_ | refine rf ?_ | refine rs ?_ | refine And.intro ?_ ?_) | omega | simp (maxSteps := 1000000) only [go_sem, simprocAttr, ↓reduceIte, tkR, List.length_map, List.length_append])
    refine RetK.of [(3, 2)] 4 (by decide) (by decide) ?_ rfl ?_ <;> simp only [go_sem, reduceCtorEq, reduceIte, Nat.reduceEqDiff, Nat.reduceLT, Nat.reduceLeDiff, Int.natCast_succ]
  | true =>
    have e1 : putB btw t true = [] := rfl
    have e2 : putO out btw t true = flush out btw ++ [(t, true)] := rfl
    rw [e1, e2]
    by_cases h0 : btw = []
    · have e3 : flush out [] = out := if_pos rfl
      (repeat' first | with_reducible (first | intro _ | refine rc ?_ | refine rl ?_ | refine rh ?_ | refine rt ?_ | refine rf ?_ | refine rs ?_ | refine And.intro ?_ ?_) | omega | simp (maxSteps := 1000000) only [go_sem, simprocAttr, ↓reduceIte, h0, e3, tkR, List.length_map, List.length_append])
      refine RetK.of [(3, 4)] 4 (by decide) (by decide) ?_ rfl ?_ <;> simp only [go_sem, reduceCtorEq, reduceIte, Nat.reduceEqDiff, Nat.reduceLT, Nat.reduceLeDiff, Int.natCast_succ, tkAv, List.map_append, List.map_cons, List.map_nil]
    · have e3 : flush out btw = out ++ [(btw, false)] := if_neg h0
      (repeat' first | with_reducible (first | intro _ | refine rc ?_ | refine rl ?_ | refine rh ?_ | refine rt ?_ | refine rf ?_ | refine rs ?_ | refine And.intro ?_ ?_) | omega | simp (maxSteps := 1000000) only [go_sem, simprocAttr, ↓reduceIte, h0, e3, tkR, List.length_map, List.length_append])
      refine RetK.of [(3, 6)] 4 (by decide) (by decide) ?_ rfl ?_ <;> simp only [go_sem, reduceCtorEq, reduceIte, Nat.reduceEqDiff, Nat.reduceLT, Nat.reduceLeDiff, Int.natCast_succ, tkAv, List.map_append, List.map_cons, List.map_nil]
end Go.Fv.V

/- The reference's Tokens. -/
namespace Go.Fv.V
open Go Go.Proofs
set_option linter.unusedSimpArgs false
set_option linter.unusedVariables false
set_option linter.unnecessarySimpa false
set_option maxRecDepth 8000

theorem u_other {u : Bytes} (h : 0 < u.length) (hc : inW (u.getD 0 0) = false) (btw : Bytes) (out : List Tok) : toks u btw out = toks (u.drop 1) (btw ++ u.take 1) out := by
  cases u with
  | nil => simp at h
  | cons c u => exact toks_other hc btw out
theorem u_run {u : Bytes} {n : Nat} (hn : n ≤ u.length) (hr : ∀ j, j < n → inW (u.getD j 0) = true) (he : n < u.length → inW (u.getD n 0) = false) : u.takeWhile inW = u.take n ∧ u.dropWhile inW = u.drop n := by
  have := run_at (s := u) n 0 n (by omega) (Nat.zero_le _) hn (fun j _ h => hr j h) he
  simpa [sub] using this
theorem u_row {u : Bytes} {n : Nat} (h0 : 0 < n) (hn : n ≤ u.length) (hr : ∀ j, j < n → inW (u.getD j 0) = true) (he : n < u.length → inW (u.getD n 0) = false) (btw : Bytes) (out : List Tok) (hw : isWd (midQ (u.take n)) = false) :
    toks u btw out = toks (u.drop n) (btw ++ u.take n) out := by
  obtain ⟨e1, e2⟩ := u_run hn hr he
  cases u with
  | nil => simp at hn; omega
  | cons c u => rw [toks_row (c := c) (s := u) (hr 0 h0) _ _ (by rw [e1, hw]; decide), e1, e2]
theorem u_word {u : Bytes} {n : Nat} (h0 : 0 < n) (hn : n ≤ u.length) (hr : ∀ j, j < n → inW (u.getD j 0) = true) (he : n < u.length → inW (u.getD n 0) = false) (btw : Bytes) (out : List Tok) (hw : isWd (midQ (u.take n)) = true) :
    toks u btw out = toks (u.drop n) (postQ (dropQ (u.take n))) (flush out (btw ++ preQ (u.take n)) ++ [(midQ (u.take n), true)]) := by
  obtain ⟨e1, e2⟩ := u_run hn hr he
  cases u with
  | nil => simp at hn; omega
  | cons c u => rw [toks_word (c := c) (s := u) (hr 0 h0) _ _ (by rw [e1, hw]), e1, e2]

structure RtI where
  u : Bytes
  btw : Bytes
  out : List Tok
set_option maxHeartbeats 8000000 in
theorem refTokens_ok (s : List UInt8) (hs : s.length ≤ 1048576) : FnOk Tryd.prog 26 [.str s] (.own 0) [(0, .row 51 (tkR (toks s [] [])))] := by
  refine FnOk.of_vc Tryd.func26 rfl (by decide) (by simp [Tryd.f26]) [.tmp 2] rfl fun w0 T0 _ => ?_
  simp only [Tryd.f26, argEnv]
  (repeat' first | with_reducible (first | intro _ | refine rc ?_ | refine rl ?_ | refine rh ?_ | refine rt ?_ | refine rf ?_ | refine rs ?_ | refine And.intro ?_ ?_) | omega | simp (maxSteps := 1000000) only [go_sem, simprocAttr, ↓reduceIte])
  refine VcLoop.intro (fun x : RtI => ⟨90, [(5, .fn 49 [.ptr 0 0, .ptr 1 0]), (4, .ptr 0 0), (3, .ptr 1 0), (0, .str x.u)], [(0, .box 9 [.str x.btw]), (1, .box 48 [.own 2]), (2, .row 51 (tkR x.out))], 3⟩) (fun x => x.btw.length + x.u.length ≤ s.length ∧ toks x.u x.btw x.out = toks s [] [] ∧ x.out.length + 2 * x.u.length ≤ 2 * s.length) (fun x => x.u.length) ⟨s, [], []⟩ ?_ ⟨by simp, rfl, by simp⟩ fun x hx => ?_
  · refine Ent.trans (Ent.nilBox (P := Tryd.prog) 1 0 51 e51 rfl rfl) (Ent.auto0 rfl ?_ ?_) <;> simp only [go_sem, reduceCtorEq, reduceIte, Nat.reduceEqDiff, Nat.reduceLT, Nat.reduceLeDiff, Int.natCast_succ, zrow, tkR, put, List.set_cons_zero, List.set_cons_succ, Nat.zero_mul, List.range_zero, List.map_nil, List.replicate_zero]
  obtain ⟨u, btw, out⟩ := x
  obtain ⟨hbu, ht, hou⟩ := hx
  dsimp only at hbu ht hou ⊢
  by_cases hu : u = []
  · subst hu
    rw [toks_nil] at ht
    rw [← ht]
    by_cases hb : btw = []
    · have e : flush out [] = out := if_pos rfl
      (repeat' first | with_reducible (first | intro _ | refine rc ?_ | refine rl ?_ | refine rh ?_ | refine rt ?_ | refine rf ?_ | refine rs ?_ | refine And.intro ?_ ?_) | omega | simp (maxSteps := 1000000) only [go_sem, simprocAttr, ↓reduceIte, hb, e, tkR])
      refine Ret.auto 1 ?_ rfl ?_ <;> simp only [go_sem, reduceCtorEq, reduceIte, Nat.reduceEqDiff, Nat.reduceLT, Nat.reduceLeDiff, Int.natCast_succ, Post]
    · have e : flush out btw = out ++ [(btw, false)] := if_neg hb
      (repeat' first | with_reducible (first | intro _ | refine rc ?_ | refine rl ?_ | refine rh ?_ | refine rt ?_ | refine rf ?_ | refine rs ?_ | refine And.intro ?_ ?_) | omega | simp (maxSteps := 1000000) only [go_sem, simprocAttr, ↓reduceIte, hb, e, tkR, List.length_map])
      refine Ret.auto 1 ?_ rfl ?_ <;> simp only [go_sem, reduceCtorEq, reduceIte, Nat.reduceEqDiff, Nat.reduceLT, Nat.reduceLeDiff, Int.natCast_succ, Post, tkAv, List.map_append, List.map_cons, List.map_nil]
  · have hul : 0 < u.length := List.length_pos_iff.2 hu
    (repeat' first | with_reducible (first | intro _ | refine rc ?_ | refine rl ?_ | refine rh ?_ | refine rt ?_ | refine rf ?_ | refine rs ?_ | refine And.intro ?_ ?_) | omega | simp (maxSteps := 1000000) only [go_sem, simprocAttr, ↓reduceIte, hu])
    refine VcLoop.intro (fun n : Nat => ⟨90, [(6, .int .i64 n), (5, .fn 49 [.ptr 0 0, .ptr 1 0]), (4, .ptr 0 0), (3, .ptr 1 0), (0, .str u)], [(0, .box 9 [.str btw]), (1, .box 48 [.own 2]), (2, .row 51 (tkR out))], 3⟩) (fun n => n ≤ u.length ∧ ∀ j, j < n → inW (u.getD j 0) = true) (fun n => u.length - n) 0 ?_ ⟨Nat.zero_le _, fun j h => absurd h (Nat.not_lt_zero j)⟩ fun n hn => ?_
    · refine Ent.auto0 rfl ?_ ?_ <;> simp only [go_sem, reduceCtorEq, reduceIte, Nat.reduceEqDiff, Nat.reduceLT, Nat.reduceLeDiff, Int.natCast_succ, tkR]
    obtain ⟨hn, hr⟩ := hn
    by_cases hkl : n < u.length
    · have hkl2 : (n : Int) < u.length := by omega
      (repeat' first | with_reducible (first | intro _ | refine rc ?_ | refine rl ?_ | refine rh ?_ | refine rt ?_ | refine rf ?_ | refine rs ?_ | refine And.intro ?_ ?_) | omega | simp (maxSteps := 1000000) only [go_sem, simprocAttr, ↓reduceIte, hkl2, Int.toNat_natCast])
      refine VcCall.fr (FnFr.of_ok (isLetter_ok (u.getD n 0)) rfl rfl) (by simp only [noIdR_ok, argOkL, argOk, allOk, argOkN, List.drop_zero, lk, reduceIte, reduceCtorEq, Nat.reduceEqDiff, Option.some.injEq, Item.row.injEq, Item.box.injEq, AV.ro.injEq, exists_eq_left, exists_and_left, exists_eq_left', exists_eq_right, and_assoc, and_true, true_and, List.cons.injEq, exists_eq', exists_eq]) 0 rfl (by simp [rowsB]) ?_
      cases hL : isL (u.getD n 0) with
      | true =>
        (repeat' first | with_reducible (first | intro _ | refine rc ?_ | refine rl ?_ | refine rh ?_ | refine rt ?_ | refine rf ?_ | refine rs ?_ | refine And.intro ?_ ?_) | omega | simp (maxSteps := 1000000) only [go_sem, simprocAttr, ↓reduceIte, hL])
        refine ⟨n + 1, Ent.auto0 rfl ?_ ?_, ⟨by omega, fun j h2 => ?_⟩, by omega⟩
        · simp only [go_sem, reduceCtorEq, reduceIte, Nat.reduceEqDiff, Nat.reduceLT, Nat.reduceLeDiff, Int.natCast_succ]
        · simp only [go_sem, reduceCtorEq, reduceIte, Nat.reduceEqDiff, Nat.reduceLT, Nat.reduceLeDiff, Int.natCast_succ, tkR]
        · by_cases hj : j = n
          · rw [hj, inW_eq, hL]; rfl
          · exact hr j (by omega)
      | false =>
        by_cases h39 : ((u.getD n 0).toNat : Int) = 39
        · (repeat' first | with_reducible (first | intro _ | refine rc ?_ | refine rl ?_ | refine rh ?_ | refine rt ?_ | refine rf ?_ | refine rs ?_ | refine And.intro ?_ ?_) | omega | simp (maxSteps := 1000000) only [go_sem, simprocAttr, ↓reduceIte, hL, h39, Int.toNat_natCast])
          refine ⟨n + 1, Ent.auto0 rfl ?_ ?_, ⟨by omega, fun j h2 => ?_⟩, by omega⟩
          · simp only [go_sem, reduceCtorEq, reduceIte, Nat.reduceEqDiff, Nat.reduceLT, Nat.reduceLeDiff, Int.natCast_succ]
          · simp only [go_sem, reduceCtorEq, reduceIte, Nat.reduceEqDiff, Nat.reduceLT, Nat.reduceLeDiff, Int.natCast_succ, tkR]
          · by_cases hj : j = n
            · rw [hj, inW_eq, hL, decide_eq_true h39]; rfl
            · exact hr j (by omega)
        · have he : n < u.length → inW (u.getD n 0) = false := fun _ => by rw [inW_eq, hL, decide_eq_false h39]; rfl
          obtain ⟨t, hT2⟩ : ∃ t, u.take n = t := ⟨_, rfl⟩
          have hT : List.take (n - 0) u = t := hT2
          have htl : t.length = n := by rw [← hT2]; simp; omega
          have hU : List.take (u.length - n) (List.drop n u) = u.drop n := List.take_of_length_le (by simp)
          (repeat' first | with_reducible (first | intro _ | refine rc ?_ | refine rl ?_ | refine rh ?_ | refine rt ?_ | refine rf ?_ | refine rs ?_ | refine And.intro ?_ ?_) | omega | simp (maxSteps := 1000000) only [go_sem, simprocAttr, ↓reduceIte, hL, h39, Int.toNat_natCast, hT])
          · have hn0 : n = 0 := by omega
            subst hn0
            have hst := u_other hul (he hkl) btw out
            have k1 := put_ok out btw (u.take 1) false (by omega) (by omega) (by simp; omega)
            rw [show putB btw (u.take 1) false = btw ++ u.take 1 from rfl, show putO out btw (u.take 1) false = out from rfl] at k1
            have hd : List.take (u.length - 1) (List.drop 1 u) = u.drop 1 := List.take_of_length_le (by simp)
            refine VcCall.io [0, 1, 2] k1 (by decide) (by simp [renL, ren, ioN]) rfl (by simp [subOk, ioN, lk, Item.ren, Item.below, ren, renL, belowL, Fv.below, tkR, renR_ok, belowR_ok]) covA3 4 (by decide) rfl (by simp [rowsB, Item.below, Fv.below, belowL, tkR, belowR_ok]) ?_
            (repeat' first | with_reducible (first | intro _ | refine rc ?_ | refine rl ?_ | refine rh ?_ | refine rt ?_ | refine rf ?_ | refine rs ?_ | refine And.intro ?_ ?_) | omega | simp (maxSteps := 1000000) only [go_sem, simprocAttr, ↓reduceIte, S.ioS, ioRows, ioN, delL, Item.ren, ren, renL, tkR, List.length_cons, List.length_nil, List.getElem?_cons_zero, List.getElem?_cons_succ, List.getElem?_nil, List.cons_append, List.nil_append, Nat.reduceAdd, Nat.sub_self, Nat.add_zero, List.filter, hd])
            refine ⟨⟨u.drop 1, btw ++ u.take 1, out⟩, Ent.auto0 rfl ?_ ?_, ⟨?_, ?_, ?_⟩, ?_⟩
            · simp only [go_sem, reduceCtorEq, reduceIte, Nat.reduceEqDiff, Nat.reduceLT, Nat.reduceLeDiff, Int.natCast_succ]
            · simp only [go_sem, reduceCtorEq, reduceIte, Nat.reduceEqDiff, Nat.reduceLT, Nat.reduceLeDiff, Int.natCast_succ, tkR]
            · simp; omega
            · rw [← hst]; exact ht
            · simp; omega
            · simp; omega
          have hn0 : 0 < n := by omega
          have hall : t.all inW = true := by rw [← hT2, ← (u_run hn hr he).1]; exact takeW_all u
          have hws := u_row hn0 hn hr he btw out
          have hwd := u_word hn0 hn hr he btw out
          rw [hT2] at hws hwd
          have hcd := cut_dec hall
          have hcs := @cut_some t
          have hcp := @cut_parts t (preN t) (preN t + (midQ t).length) rfl rfl
          have hrow := isWd_row hall
          have hple := preN_le t
          have hrl := dropR_len t
          have hprp := preN_eq t
          have hql := takeWhile_len_le qu t
          rw [show t.dropWhile qu = dropQ t from rfl] at hql
          have ha : (t.length : Int) - ((dropQ t).length : Int) = (preN t : Int) := by omega
          refine VcCall.fr (FnFr.of_ok (trimLeft_ok t (by omega)) rfl rfl) (by simp only [noIdR_ok, argOkL, argOk, allOk, argOkN, List.drop_zero, lk, reduceIte, reduceCtorEq, Nat.reduceEqDiff, Option.some.injEq, Item.row.injEq, Item.box.injEq, AV.ro.injEq, exists_eq_left, exists_and_left, exists_eq_left', exists_eq_right, and_assoc, and_true, true_and, List.cons.injEq, exists_eq', exists_eq]) 0 rfl (by simp [rowsB]) ?_
          (repeat' first | with_reducible (first | intro _ | refine rc ?_ | refine rl ?_ | refine rh ?_ | refine rt ?_ | refine rf ?_ | refine rs ?_ | refine And.intro ?_ ?_) | omega | simp (maxSteps := 1000000) only [go_sem, simprocAttr, ↓reduceIte, ha])
          refine VcCall.fr (FnFr.of_ok (trimRight_ok t (by omega)) rfl rfl) (by simp only [noIdR_ok, argOkL, argOk, allOk, argOkN, List.drop_zero, lk, reduceIte, reduceCtorEq, Nat.reduceEqDiff, Option.some.injEq, Item.row.injEq, Item.box.injEq, AV.ro.injEq, exists_eq_left, exists_and_left, exists_eq_left', exists_eq_right, and_assoc, and_true, true_and, List.cons.injEq, exists_eq', exists_eq]) 0 rfl (by simp [rowsB]) ?_
          (repeat' first | with_reducible (first | intro _ | refine rc ?_ | refine rl ?_ | refine rh ?_ | refine rt ?_ | refine rf ?_ | refine rs ?_ | refine And.intro ?_ ?_) | omega | simp (maxSteps := 1000000) only [go_sem, simprocAttr, ↓reduceIte, ha])
          · have hw : isWd (midQ t) = false := hcd.1 (by omega)
            have k1 := put_ok out btw t false (by omega) (by omega) (by omega)
            rw [show putB btw t false = btw ++ t from rfl, show putO out btw t false = out from rfl] at k1
            refine VcCall.io [0, 1, 2] k1 (by decide) (by simp [renL, ren, ioN]) rfl (by simp [subOk, ioN, lk, Item.ren, Item.below, ren, renL, belowL, Fv.below, tkR, renR_ok, belowR_ok]) covA3 4 (by decide) rfl (by simp [rowsB, Item.below, Fv.below, belowL, tkR, belowR_ok]) ?_
            (repeat' first | with_reducible (first | intro _ | refine rc ?_ | refine rl ?_ | refine rh ?_ | refine rt ?_ | refine rf ?_ | refine rs ?_ | refine And.intro ?_ ?_) | omega | simp (maxSteps := 1000000) only [go_sem, simprocAttr, ↓reduceIte, S.ioS, ioRows, ioN, delL, Item.ren, ren, renL, tkR, List.length_cons, List.length_nil, List.getElem?_cons_zero, List.getElem?_cons_succ, List.getElem?_nil, List.cons_append, List.nil_append, Nat.reduceAdd, Nat.sub_self, Nat.add_zero, List.filter, hU, Int.toNat_natCast])
            refine ⟨⟨u.drop n, btw ++ t, out⟩, Ent.auto0 rfl ?_ ?_, ⟨?_, ?_, ?_⟩, ?_⟩
            · simp only [go_sem, reduceCtorEq, reduceIte, Nat.reduceEqDiff, Nat.reduceLT, Nat.reduceLeDiff, Int.natCast_succ]
            · simp only [go_sem, reduceCtorEq, reduceIte, Nat.reduceEqDiff, Nat.reduceLT, Nat.reduceLeDiff, Int.natCast_succ, tkR]
            · simp; omega
            · rw [← hws hw]; exact ht
            · simp; omega
            · simp; omega
          · have hw : isWd (midQ t) = true := by
              cases h : isWd (midQ t) with
              | true => rfl
              | false => have := hcd.2 h; omega
            obtain ⟨hne, h40⟩ := hrow.1 hw
            have hml : 0 < (midQ t).length := List.length_pos_iff.2 hne
            obtain ⟨f1, f2, f3⟩ := hcp
            have hb := hcs hne
            have hst := hwd hw
            have h3 := congrArg List.length (three t)
            simp only [List.length_append] at h3
            rw [← hb] at f2 f3
            have f3' : List.take (t.length - (dropR t).length) (List.drop (dropR t).length t) = postQ (dropQ t) := by rw [List.take_of_length_le (by simp)]; exact f3
            generalize midQ t = m at *
            generalize preQ t = x at *
            generalize postQ (dropQ t) = z at *
            generalize preN t = p at *
            generalize (dropR t).length = q at *
            have k1 := put_ok out btw x false (by omega) (by omega) (by omega)
            rw [show putB btw x false = btw ++ x from rfl, show putO out btw x false = out from rfl] at k1
            have k2 := put_ok out (btw ++ x) m true (by omega) (by simp; omega) (by omega)
            rw [show putB (btw ++ x) m true = [] from rfl, show putO out (btw ++ x) m true = flush out (btw ++ x) ++ [(m, true)] from rfl] at k2
            have hfl := addT_len out (btw ++ x) false
            rw [show addT out (btw ++ x) false = flush out (btw ++ x) from rfl] at hfl
            have hol2 : (flush out (btw ++ x) ++ [(m, true)]).length ≤ out.length + 2 := by simp; omega
            generalize flush out (btw ++ x) ++ [(m, true)] = out2 at *
            have k3 := put_ok out2 [] z false (by omega) (by simp) (by omega)
            rw [show putB [] z false = z from rfl, show putO out2 [] z false = out2 from rfl] at k3
            rw [show List.take (p - 0) t = x from f1]
            refine VcCall.io [0, 1, 2] k1 (by decide) (by simp [renL, ren, ioN]) rfl (by simp [subOk, ioN, lk, Item.ren, Item.below, ren, renL, belowL, Fv.below, tkR, renR_ok, belowR_ok]) covA3 4 (by decide) rfl (by simp [rowsB, Item.below, Fv.below, belowL, tkR, belowR_ok]) ?_
            (repeat' first | with_reducible (first | intro _ | refine rc ?_ | refine rl ?_ | refine rh ?_ | refine rt ?_ | refine rf ?_ | refine rs ?_ | refine And.intro ?_ ?_) | omega | simp (maxSteps := 1000000) only [go_sem, simprocAttr, ↓reduceIte, S.ioS, ioRows, ioN, delL, Item.ren, ren, renL, tkR, List.length_cons, List.length_nil, List.getElem?_cons_zero, List.getElem?_cons_succ, List.getElem?_nil, List.cons_append, List.nil_append, Nat.reduceAdd, Nat.sub_self, Nat.add_zero, List.filter, f2, Int.toNat_natCast])
            refine VcCall.io [0, 1, 3] k2 (by decide) (by simp [renL, ren, ioN]) rfl (by simp [subOk, ioN, lk, Item.ren, Item.below, ren, renL, belowL, Fv.below, tkR, renR_ok, belowR_ok]) covA3 4 (by decide) rfl (by simp [rowsB, Item.below, Fv.below, belowL, tkR, belowR_ok]) ?_
            (repeat' first | with_reducible (first | intro _ | refine rc ?_ | refine rl ?_ | refine rh ?_ | refine rt ?_ | refine rf ?_ | refine rs ?_ | refine And.intro ?_ ?_) | omega | simp (maxSteps := 1000000) only [go_sem, simprocAttr, ↓reduceIte, S.ioS, ioRows, ioN, delL, Item.ren, ren, renL, tkR, List.length_cons, List.length_nil, List.getElem?_cons_zero, List.getElem?_cons_succ, List.getElem?_nil, List.cons_append, List.nil_append, Nat.reduceAdd, Nat.sub_self, Nat.add_zero, List.filter, f3', Int.toNat_natCast])
            refine VcCall.io [0, 1, 4] k3 (by decide) (by simp [renL, ren, ioN]) rfl (by simp [subOk, ioN, lk, Item.ren, Item.below, ren, renL, belowL, Fv.below, tkR, renR_ok, belowR_ok]) covA3 4 (by decide) rfl (by simp [rowsB, Item.below, Fv.below, belowL, tkR, belowR_ok]) ?_
            (repeat' first | with_reducible (first | intro _ | refine rc ?_ | refine rl ?_ | refine rh ?_ | refine rt ?_ | refine rf ?_ | refine rs ?_ | refine And.intro ?_ ?_) | omega | simp (maxSteps := 1000000) only [go_sem, simprocAttr, ↓reduceIte, S.ioS, ioRows, ioN, delL, Item.ren, ren, renL, tkR, List.length_cons, List.length_nil, List.getElem?_cons_zero, List.getElem?_cons_succ, List.getElem?_nil, List.cons_append, List.nil_append, Nat.reduceAdd, Nat.sub_self, Nat.add_zero, List.filter, hU, Int.toNat_natCast])
            refine ⟨⟨u.drop n, z, out2⟩, Ent.auto0 rfl ?_ ?_, ⟨?_, ?_, ?_⟩, ?_⟩
            · simp only [go_sem, reduceCtorEq, reduceIte, Nat.reduceEqDiff, Nat.reduceLT, Nat.reduceLeDiff, Int.natCast_succ]
            · simp only [go_sem, reduceCtorEq, reduceIte, Nat.reduceEqDiff, Nat.reduceLT, Nat.reduceLeDiff, Int.natCast_succ, tkR]
            · simp; omega
            · rw [← hst]; exact ht
            · simp; omega
            · simp; omega
    · have hkl2 : ¬ (n : Int) < u.length := by omega
      have he : n < u.length → inW (u.getD n 0) = false := fun h => absurd h hkl
      obtain ⟨t, hT2⟩ : ∃ t, u.take n = t := ⟨_, rfl⟩
      have hT : List.take (n - 0) u = t := hT2
      have htl : t.length = n := by rw [← hT2]; simp; omega
      have hU : List.take (u.length - n) (List.drop n u) = u.drop n := List.take_of_length_le (by simp)
      (repeat' first | with_reducible (first | intro _ | refine rc ?_ | refine rl ?_ | refine rh ?_ | refine rt ?_ | refine rf ?_ | refine rs ?_ | refine And.intro ?_ ?_) | omega | simp (maxSteps := 1000000) only [go_sem, simprocAttr, ↓reduceIte, hkl2, Int.toNat_natCast, hT])
      have hn0 : 0 < n := by omega
      have hall : t.all inW = true := by rw [← hT2, ← (u_run hn hr he).1]; exact takeW_all u
      have hws := u_row hn0 hn hr he btw out
      have hwd := u_word hn0 hn hr he btw out
      rw [hT2] at hws hwd
      have hcd := cut_dec hall
      have hcs := @cut_some t
      have hcp := @cut_parts t (preN t) (preN t + (midQ t).length) rfl rfl
      have hrow := isWd_row hall
      have hple := preN_le t
      have hrl := dropR_len t
      have hprp := preN_eq t
      have hql := takeWhile_len_le qu t
      rw [show t.dropWhile qu = dropQ t from rfl] at hql
      have ha : (t.length : Int) - ((dropQ t).length : Int) = (preN t : Int) := by omega
      refine VcCall.fr (FnFr.of_ok (trimLeft_ok t (by omega)) rfl rfl) (by simp only [noIdR_ok, argOkL, argOk, allOk, argOkN, List.drop_zero, lk, reduceIte, reduceCtorEq, Nat.reduceEqDiff, Option.some.injEq, Item.row.injEq, Item.box.injEq, AV.ro.injEq, exists_eq_left, exists_and_left, exists_eq_left', exists_eq_right, and_assoc, and_true, true_and, List.cons.injEq, exists_eq', exists_eq]) 0 rfl (by simp [rowsB]) ?_
      (repeat' first | with_reducible (first | intro _ | refine rc ?_ | refine rl ?_ | refine rh ?_ | refine rt ?_ | refine rf ?_ | refine rs ?_ | refine And.intro ?_ ?_) | omega | simp (maxSteps := 1000000) only [go_sem, simprocAttr, ↓reduceIte, ha])
      refine VcCall.fr (FnFr.of_ok (trimRight_ok t (by omega)) rfl rfl) (by simp only [noIdR_ok, argOkL, argOk, allOk, argOkN, List.drop_zero, lk, reduceIte, reduceCtorEq, Nat.reduceEqDiff, Option.some.injEq, Item.row.injEq, Item.box.injEq, AV.ro.injEq, exists_eq_left, exists_and_left, exists_eq_left', exists_eq_right, and_assoc, and_true, true_and, List.cons.injEq, exists_eq', exists_eq]) 0 rfl (by simp [rowsB]) ?_
      (repeat' first | with_reducible (first | intro _ | refine rc ?_ | refine rl ?_ | refine rh ?_ | refine rt ?_ | refine rf ?_ | refine rs ?_ | refine And.intro ?_ ?_) | omega | simp (maxSteps := 1000000) only [go_sem, simprocAttr, ↓reduceIte, ha])
      · have hw : isWd (midQ t) = false := hcd.1 (by omega)
        have k1 := put_ok out btw t false (by omega) (by omega) (by omega)
        rw [show putB btw t false = btw ++ t from rfl, show putO out btw t false = out from rfl] at k1
        refine VcCall.io [0, 1, 2] k1 (by decide) (by simp [renL, ren, ioN]) rfl (by simp [subOk, ioN, lk, Item.ren, Item.below, ren, renL, belowL, Fv.below, tkR, renR_ok, belowR_ok]) covA3 4 (by decide) rfl (by simp [rowsB, Item.below, Fv.below, belowL, tkR, belowR_ok]) ?_
        (repeat' first | with_reducible (first | intro _ | refine rc ?_ | refine rl ?_ | refine rh ?_ | refine rt ?_ | refine rf ?_ | refine rs ?_ | refine And.intro ?_ ?_) | omega | simp (maxSteps := 1000000) only [go_sem, simprocAttr, ↓reduceIte, S.ioS, ioRows, ioN, delL, Item.ren, ren, renL, tkR, List.length_cons, List.length_nil, List.getElem?_cons_zero, List.getElem?_cons_succ, List.getElem?_nil, List.cons_append, List.nil_append, Nat.reduceAdd, Nat.sub_self, Nat.add_zero, List.filter, hU, Int.toNat_natCast])
        refine ⟨⟨u.drop n, btw ++ t, out⟩, Ent.auto0 rfl ?_ ?_, ⟨?_, ?_, ?_⟩, ?_⟩
        · simp only [go_sem, reduceCtorEq, reduceIte, Nat.reduceEqDiff, Nat.reduceLT, Nat.reduceLeDiff, Int.natCast_succ]
        · simp only [go_sem, reduceCtorEq, reduceIte, Nat.reduceEqDiff, Nat.reduceLT, Nat.reduceLeDiff, Int.natCast_succ, tkR]
        · simp; omega
        · rw [← hws hw]; exact ht
        · simp; omega
        · simp; omega
      · have hw : isWd (midQ t) = true := by
          cases h : isWd (midQ t) with
          | true => rfl
          | false => have := hcd.2 h; omega
        obtain ⟨hne, h40⟩ := hrow.1 hw
        have hml : 0 < (midQ t).length := List.length_pos_iff.2 hne
        obtain ⟨f1, f2, f3⟩ := hcp
        have hb := hcs hne
        have hst := hwd hw
        have h3 := congrArg List.length (three t)
        simp only [List.length_append] at h3
        rw [← hb] at f2 f3
        have f3' : List.take (t.length - (dropR t).length) (List.drop (dropR t).length t) = postQ (dropQ t) := by rw [List.take_of_length_le (by simp)]; exact f3
        generalize midQ t = m at *
        generalize preQ t = x at *
        generalize postQ (dropQ t) = z at *
        generalize preN t = p at *
        generalize (dropR t).length = q at *
        have k1 := put_ok out btw x false (by omega) (by omega) (by omega)
        rw [show putB btw x false = btw ++ x from rfl, show putO out btw x false = out from rfl] at k1
        have k2 := put_ok out (btw ++ x) m true (by omega) (by simp; omega) (by omega)
        rw [show putB (btw ++ x) m true = [] from rfl, show putO out (btw ++ x) m true = flush out (btw ++ x) ++ [(m, true)] from rfl] at k2
        have hfl := addT_len out (btw ++ x) false
        rw [show addT out (btw ++ x) false = flush out (btw ++ x) from rfl] at hfl
        have hol2 : (flush out (btw ++ x) ++ [(m, true)]).length ≤ out.length + 2 := by simp; omega
        generalize flush out (btw ++ x) ++ [(m, true)] = out2 at *
        have k3 := put_ok out2 [] z false (by omega) (by simp) (by omega)
        rw [show putB [] z false = z from rfl, show putO out2 [] z false = out2 from rfl] at k3
        rw [show List.take (p - 0) t = x from f1]
        refine VcCall.io [0, 1, 2] k1 (by decide) (by simp [renL, ren, ioN]) rfl (by simp [subOk, ioN, lk, Item.ren, Item.below, ren, renL, belowL, Fv.below, tkR, renR_ok, belowR_ok]) covA3 4 (by decide) rfl (by simp [rowsB, Item.below, Fv.below, belowL, tkR, belowR_ok]) ?_
        (repeat' first | with_reducible (first | intro _ | refine rc ?_ | refine rl ?_ | refine rh ?_ | refine rt ?_ | refine rf ?_ | refine rs ?_ | refine And.intro ?_ ?_) | omega | simp (maxSteps := 1000000) only [go_sem, simprocAttr, ↓reduceIte, S.ioS, ioRows, ioN, delL, Item.ren, ren, renL, tkR, List.length_cons, List.length_nil, List.getElem?_cons_zero, List.getElem?_cons_succ, List.getElem?_nil, List.cons_append, List.nil_append, Nat.reduceAdd, Nat.sub_self, Nat.add_zero, List.filter, f2, Int.toNat_natCast])
        refine VcCall.io [0, 1, 3] k2 (by decide) (by simp [renL, ren, ioN]) rfl (by simp [subOk, ioN, lk, Item.ren, Item.below, ren, renL, belowL, Fv.below, tkR, renR_ok, belowR_ok]) covA3 4 (by decide) rfl (by simp [rowsB, Item.below, Fv.below, belowL, tkR, belowR_ok]) ?_
        (repeat' first | with_reducible (first | intro _ | refine rc ?_ | refine rl ?_ | refine rh ?_ | refine rt ?_ | refine rf ?_ | refine rs ?_ | refine And.intro ?_ ?_) | omega | simp (maxSteps := 1000000) only [go_sem, simprocAttr, ↓reduceIte, S.ioS, ioRows, ioN, delL, Item.ren, ren, renL, tkR, List.length_cons, List.length_nil, List.getElem?_cons_zero, List.getElem?_cons_succ, List.getElem?_nil, List.cons_append, List.nil_append, Nat.reduceAdd, Nat.sub_self, Nat.add_zero, List.filter, f3', Int.toNat_natCast])
        refine VcCall.io [0, 1, 4] k3 (by decide) (by simp [renL, ren, ioN]) rfl (by simp [subOk, ioN, lk, Item.ren, Item.below, ren, renL, belowL, Fv.below, tkR, renR_ok, belowR_ok]) covA3 4 (by decide) rfl (by simp [rowsB, Item.below, Fv.below, belowL, tkR, belowR_ok]) ?_
        (repeat' first | with_reducible (first | intro _ | refine rc ?_ | refine rl ?_ | refine rh ?_ | refine rt ?_ | refine rf ?_ | refine rs ?_ | refine And.intro ?_ ?_) | omega | simp (maxSteps := 1000000) only [go_sem, simprocAttr, ↓reduceIte, S.ioS, ioRows, ioN, delL, Item.ren, ren, renL, tkR, List.length_cons, List.length_nil, List.getElem?_cons_zero, List.getElem?_cons_succ, List.getElem?_nil, List.cons_append, List.nil_append, Nat.reduceAdd, Nat.sub_self, Nat.add_zero, List.filter, hU, Int.toNat_natCast])
        refine ⟨⟨u.drop n, z, out2⟩, Ent.auto0 rfl ?_ ?_, ⟨?_, ?_, ?_⟩, ?_⟩
        · simp only [go_sem, reduceCtorEq, reduceIte, Nat.reduceEqDiff, Nat.reduceLT, Nat.reduceLeDiff, Int.natCast_succ]
        · simp only [go_sem, reduceCtorEq, reduceIte, Nat.reduceEqDiff, Nat.reduceLT, Nat.reduceLeDiff, Int.natCast_succ, tkR]
        · simp; omega
        · rw [← hst]; exact ht
        · simp; omega
        · simp; omega
end Go.Fv.V

/- Learn, and the reference's: the walks. -/
namespace Go.Fv.V
open Go Go.Proofs
set_option linter.unusedSimpArgs false
set_option linter.unusedVariables false
set_option linter.unnecessarySimpa false
set_option maxRecDepth 8000

theorem covO1W {a : Item} : ∀ j, j < 1 → ∃ it, lk [(0, a)] j = some it := fun j hj => by
  obtain rfl : j = 0 := by omega
  exact ⟨_, rfl⟩
theorem strK (a b : Bytes) : eqKey (.str a) (.str b) = decide (a = b) := by simp [eqKey]
theorem ren_gKs (p : Nat → Nat) (l : List Bytes) : renL p (gKs .str l) = gKs .str l := renL_kmap p (fun _ => rfl) _
theorem ren_gVs (p : Nat → Nat) (l : List Bytes) : renL p (gVs l) = gVs l := renL_kmap p (fun _ => rfl) _
theorem below_gKs (n : Nat) (l : List Bytes) : belowL n (gKs .str l) = true := belowL_kmap n (fun _ => rfl) _
theorem below_gVs (n : Nat) (l : List Bytes) : belowL n (gVs l) = true := belowL_kmap n (fun _ => rfl) _
theorem mk_gKs (l : List Bytes) (y : List AV) : mkL (gKs .str l) y = [] := mkL_kmap (fun _ => rfl) _ _
theorem mk_gVs (l : List Bytes) (y : List AV) : mkL (gVs l) y = [] := mkL_kmap (fun _ => rfl) _ _
theorem keysT_g {P : Program} {kt : TypeId} (h : P.underlying kt = some .string) (l : List Bytes) : KeysT P kt (gKs .str l) := KeysT_map (fun n => KeyT.str h n) _
theorem gKs_at {l : List Bytes} {j : Nat} {x : AV} (h : (gKs .str l)[j]? = some x) : j < (uqG l).length ∧ x = .str ((uqG l).getD j []) ∧ (uqG l).getD j [] ∈ l := by
  unfold gKs at h
  rw [List.getElem?_map] at h
  cases hi : (uqG l)[j]? with
  | none => rw [hi] at h; cases h
  | some k =>
    rw [hi] at h
    obtain ⟨a1, a2⟩ := List.getElem?_eq_some_iff.1 hi
    have e : (uqG l).getD j [] = k := by rw [getD_lt a1, a2]
    rw [e]
    exact ⟨a1, (Option.some.inj h).symm, mem_uqG.1 (List.mem_of_getElem? hi)⟩
theorem gVs_at {l : List Bytes} {j : Nat} {x : AV} (h : (gVs l)[j]? = some x) : x = .int .i64 (cntG l ((uqG l).getD j [])) := by
  unfold gVs at h
  rw [List.getElem?_map] at h
  cases hi : (uqG l)[j]? with
  | none => rw [hi] at h; cases h
  | some k =>
    rw [hi] at h
    obtain ⟨a1, a2⟩ := List.getElem?_eq_some_iff.1 hi
    have e : (uqG l).getD j [] = k := by rw [getD_lt a1, a2]
    rw [e]
    exact (Option.some.inj h).symm
theorem gKs_len (l : List Bytes) : (gKs .str l).length = (uqG l).length := by simp [gKs]
def learnErr (T : List Bytes) (least : Int) : Int := if 1000 < T.length then 4 else if least < 1 ∨ 1000000000 < least then 3 else if 5000 < (learnL (wordsAll T) least).length then 4 else 0
def learnOut (T : List Bytes) (least : Int) : List Wd := if learnErr T least = 0 then learnL (wordsAll T) least else []
set_option maxHeartbeats 8000000 in
theorem learn_ok (T : List Bytes) (hT : lenSum T ≤ 1048576) (least : Int) : FnOk Tryd.prog 6 [.ro (.strs T), .int .i64 least] (.tup [.own 0, .int .i64 (learnErr T least)]) [(0, .row 30 (wdR (learnOut T least)))] := by
  refine FnOk.of_vc Tryd.func6 rfl (by decide) (by simp [Tryd.f6]) [.tmp 4, .tmp 5] rfl fun w0 T0 _ => ?_
  simp only [Tryd.f6, argEnv]
  (repeat' first | with_reducible (first | intro _ | refine rc ?_ | refine rl ?_ | refine rh ?_ | refine rt ?_ | refine rf ?_ | refine rs ?_ | refine And.intro ?_ ?_) | omega | simp (maxSteps := 1000000) only [go_sem, simprocAttr, ↓reduceIte])
  refine VcLoop.intro (fun i : Nat => ⟨89, [(19, .int .i64 i), (18, .int .i64 T.length), (17, .ro (.strs T)), (6, .int .i64 (lenSum (T.take i) : Nat)), (0, .ro (.strs T)), (1, .int .i64 least)], [], 0⟩) (fun i => i ≤ T.length) (fun i => T.length - i) 0 ?_ (Nat.zero_le _) fun i hi => ?_
  · refine Ent.auto0 rfl ?_ ?_ <;> simp only [go_sem, reduceCtorEq, reduceIte, Nat.reduceEqDiff, Nat.reduceLT, Nat.reduceLeDiff, Int.natCast_succ, List.take_zero, lenSum, List.map_nil, List.sum_nil]
  by_cases hlt : i < T.length
  · have hs := lenSum_take hlt
    have hl := lenSum_le T (i + 1)
    rw [hs] at hl
    generalize lenSum (T.take i) = S at *
    (repeat' first | with_reducible (first | intro _ | refine rc ?_ | refine rl ?_ | refine rh ?_ | refine rt ?_ | refine rf ?_ | refine rs ?_ | refine And.intro ?_ ?_) | omega | simp (maxSteps := 1000000) only [go_sem, simprocAttr, ↓reduceIte, elemA])
    refine ⟨i + 1, Ent.auto0 rfl ?_ ?_, by omega, by omega⟩ <;> simp only [go_sem, reduceCtorEq, reduceIte, Nat.reduceEqDiff, Nat.reduceLT, Nat.reduceLeDiff, Int.natCast_succ, hs]
    all_goals omega
  have e : i = T.length := by omega
  subst e
  rw [List.take_length]
  unfold learnOut learnErr
  by_cases h1 : 1000 < T.length
  · have h1' : (1000 : Int) < T.length := by omega
    (repeat' first | with_reducible (first | intro _ | refine rc ?_ | refine rl ?_ | refine rh ?_ | refine rt ?_ | refine rf ?_ | refine rs ?_ | refine And.intro ?_ ?_) | omega | simp (maxSteps := 1000000) only [go_sem, simprocAttr, ↓reduceIte, h1'])
    refine Ret.auto 1 ?_ rfl ?_ <;> simp only [go_sem, reduceCtorEq, reduceIte, Nat.reduceEqDiff, Nat.reduceLT, Nat.reduceLeDiff, Int.natCast_succ, Post, h1, learnErr]
    all_goals simp [h1]
  have h1' : ¬ (1000 : Int) < T.length := by omega
  by_cases h2 : least < 1 ∨ 1000000000 < least
  · (repeat' first | with_reducible (first | intro _ | refine rc ?_ | refine rl ?_ | refine rh ?_ | refine rt ?_ | refine rf ?_ | refine rs ?_ | refine And.intro ?_ ?_) | omega | simp (maxSteps := 1000000) only [go_sem, simprocAttr, ↓reduceIte, h1', h2])
    refine Ret.auto 1 ?_ rfl ?_ <;> simp only [go_sem, reduceCtorEq, reduceIte, Nat.reduceEqDiff, Nat.reduceLT, Nat.reduceLeDiff, Int.natCast_succ, Post, h1, h2, learnErr]
    all_goals simp [h1, h2]
  (repeat' first | with_reducible (first | intro _ | refine rc ?_ | refine rl ?_ | refine rh ?_ | refine rt ?_ | refine rf ?_ | refine rs ?_ | refine And.intro ?_ ?_) | omega | simp (maxSteps := 1000000) only [go_sem, simprocAttr, ↓reduceIte, h1', h2])
  refine VcLoop.intro (fun i : Nat => ⟨89, [(46, .int .i64 i), (45, .int .i64 T.length), (44, .ro (.strs T)), (9, .own 0), (0, .ro (.strs T)), (1, .int .i64 least)], [(0, .map (gKs .str (wordsAll (T.take i))) (gVs (wordsAll (T.take i))))], 1⟩) (fun i => i ≤ T.length) (fun i => T.length - i) 0 ?_ (Nat.zero_le _) fun i hi => ?_
  · refine Ent.auto0 rfl ?_ ?_ <;> simp only [go_sem, reduceCtorEq, reduceIte, Nat.reduceEqDiff, Nat.reduceLT, Nat.reduceLeDiff, Int.natCast_succ, List.take_zero, wordsAll, List.flatMap_nil, ren_gKs, ren_gVs, below_gKs, below_gVs, mk_gKs, mk_gVs]
    all_goals first | rfl | exact ⟨rfl, rfl⟩
  by_cases hlt : i < T.length
  · have hs := lenSum_take hlt
    have hl := lenSum_le T (i + 1)
    rw [hs] at hl
    have hw := wordsAll_take hlt
    have hwl := wordsAll_len (T.take i)
    rw [List.length_take] at hwl
    have hll := toks_len _ (T.getD i []) [] [] (Nat.le_refl _)
    simp only [List.length_nil] at hll
    have c1 := split_ok (T.getD i []) (by omega)
    have hwi : wordsIn (T.getD i []) = (wds (toks (T.getD i []) [] [])).map smallL := rfl
    rw [hwi] at hw
    generalize toks (T.getD i []) [] [] = l at *
    generalize hW : wordsAll (T.take i) = W at *
    generalize lenSum (T.take i) = S at *
    clear hs hwi
    (repeat' first | with_reducible (first | intro _ | refine rc ?_ | refine rl ?_ | refine rh ?_ | refine rt ?_ | refine rf ?_ | refine rs ?_ | refine And.intro ?_ ?_) | omega | simp (maxSteps := 1000000) only [go_sem, simprocAttr, ↓reduceIte, elemA])
    refine VcCall.ro (.ro (tkR l)) (FnFr.of_ok c1 rfl (by simp [noRoRows, noRoItem, noRoRow, noRoL, noRo, tkR, tkAv])) (by simp only [noIdR_ok, argOkL, argOk, allOk, argOkN, List.drop_zero, lk, reduceIte, reduceCtorEq, Nat.reduceEqDiff, Option.some.injEq, Item.row.injEq, Item.box.injEq, AV.ro.injEq, exists_eq_left, exists_and_left, exists_eq_left', exists_eq_right, and_assoc, and_true, true_and, List.cons.injEq, exists_eq', exists_eq]) (by simp [outOk, argOkL, allOk, argOk, argOkN, lk, noIdR_ok, tkR]) rfl ?_
    (repeat' first | with_reducible (first | intro _ | refine rc ?_ | refine rl ?_ | refine rh ?_ | refine rt ?_ | refine rf ?_ | refine rs ?_ | refine And.intro ?_ ?_) | omega | simp (maxSteps := 1000000) only [go_sem, simprocAttr, ↓reduceIte, tkR, List.length_map])
    refine VcLoop.intro (fun j : Nat => ⟨89, [(53, .int .i64 j), (52, .int .i64 l.length), (51, .ro (tkR l)), (46, .int .i64 i), (45, .int .i64 T.length), (44, .ro (.strs T)), (9, .own 0), (0, .ro (.strs T)), (1, .int .i64 least)], [(0, .map (gKs .str (W ++ (wds (l.take j)).map smallL)) (gVs (W ++ (wds (l.take j)).map smallL)))], 1⟩) (fun j => j ≤ l.length) (fun j => l.length - j) 0 ?_ (Nat.zero_le _) fun j hj => ?_
    · refine Ent.auto0 rfl ?_ ?_ <;> simp only [go_sem, reduceCtorEq, reduceIte, Nat.reduceEqDiff, Nat.reduceLT, Nat.reduceLeDiff, Int.natCast_succ, tkR, List.take_zero, List.map_nil, List.append_nil, ren_gKs, ren_gVs, below_gKs, below_gVs, mk_gKs, mk_gVs]
      all_goals first | rfl | simp [wds]
    by_cases hjl : j < l.length
    · have hel := tk_elem l hjl
      have hst := wds_take l hjl
      have hvl := wds_len (l.take j)
      have hvl2 : (l.take j).length ≤ l.length := by simp; omega
      generalize l.getD j ([], false) = z at *
      obtain ⟨z1, z2⟩ := z
      dsimp only at hel hst
      cases z2 with
      | true =>
        rw [if_pos rfl] at hst
        have ks := smallW_ok z1
        have hVe : W ++ (wds (l.take (j + 1))).map smallL = W ++ (wds (l.take j)).map smallL ++ [smallL z1] := by rw [hst, List.map_append, List.append_assoc]; rfl
        have hVl : (W ++ (wds (l.take j)).map smallL).length ≤ 10000000 := by rw [List.length_append, List.length_map]; omega
        generalize W ++ (wds (l.take j)).map smallL = V at *
        have hcb := cntG_bd V (smallL z1)
        have e1 := getI_g strK V (smallL z1)
        have e2 := updKs_g strK V (smallL z1)
        have e3 := updVs_g strK V (smallL z1)
        have e4 := isI_g V
        have e5 : KeysT Tryd.prog 9 (gKs .str V) := keysT_g (by kernel_rfl) _
        (repeat' first | with_reducible (first | intro _ | refine rc ?_ | refine rl ?_ | refine rh ?_ | refine rt ?_ | refine rf ?_ | refine rs ?_ | refine And.intro ?_ ?_) | omega | simp (maxSteps := 1000000) only [go_sem, simprocAttr, ↓reduceIte, elemA, hel, tkR, List.length_map])
        refine VcCall.k (ks) ?_
        (repeat' first | with_reducible (first | intro _ | refine rc ?_ | refine rl ?_ | refine rh ?_ | refine rt ?_ | refine rf ?_ | refine rs ?_ | refine And.intro ?_ ?_) | omega | simp (maxSteps := 1000000) only [go_sem, simprocAttr, ↓reduceIte, e1, e2, e3, e4, e5])
        refine ⟨j + 1, Ent.auto0 rfl ?_ ?_, by omega, by omega⟩ <;> simp only [go_sem, reduceCtorEq, reduceIte, Nat.reduceEqDiff, Nat.reduceLT, Nat.reduceLeDiff, Int.natCast_succ, tkR, hVe, ren_gKs, ren_gVs, below_gKs, below_gVs, mk_gKs, mk_gVs]
      | false =>
        rw [if_neg (by decide), List.append_nil] at hst
        (repeat' first | with_reducible (first | intro _ | refine rc ?_ | refine rl ?_ | refine rh ?_ | refine rt ?_ | refine rf ?_ | refine rs ?_ | refine And.intro ?_ ?_) | omega | simp (maxSteps := 1000000) only [go_sem, simprocAttr, ↓reduceIte, elemA, hel, tkR, List.length_map])
        refine ⟨j + 1, Ent.auto0 rfl ?_ ?_, by omega, by omega⟩ <;> simp only [go_sem, reduceCtorEq, reduceIte, Nat.reduceEqDiff, Nat.reduceLT, Nat.reduceLeDiff, Int.natCast_succ, tkR, hst, ren_gKs, ren_gVs, below_gKs, below_gVs, mk_gKs, mk_gVs]
    · have e : j = l.length := by omega
      subst e
      rw [List.take_length, ← hw]
      (repeat' first | with_reducible (first | intro _ | refine rc ?_ | refine rl ?_ | refine rh ?_ | refine rt ?_ | refine rf ?_ | refine rs ?_ | refine And.intro ?_ ?_) | omega | simp (maxSteps := 1000000) only [go_sem, simprocAttr, ↓reduceIte, tkR, List.length_map])
      refine ⟨i + 1, Ent.auto0 rfl ?_ ?_, by omega, by omega⟩ <;> simp only [go_sem, reduceCtorEq, reduceIte, Nat.reduceEqDiff, Nat.reduceLT, Nat.reduceLeDiff, Int.natCast_succ, hw, ren_gKs, ren_gVs, below_gKs, below_gVs, mk_gKs, mk_gVs]
  have e : i = T.length := by omega
  subst e
  rw [List.take_length]
  have hwl := wordsAll_len T
  have hww := fun x (hx : x ∈ wordsAll T) => wordsAll_word hx
  have hle : (learnL (wordsAll T) least).length = (pickW (wordsAll T) least (uqG (wordsAll T))).length := by unfold learnL; rw [(sortW_perm _).length_eq]
  generalize wordsAll T = ws at *
  have hK := uqG_nodup ws
  have hkl := gKs_len ws
  (repeat' first | with_reducible (first | intro _ | refine rc ?_ | refine rl ?_ | refine rh ?_ | refine rt ?_ | refine rf ?_ | refine rs ?_ | refine And.intro ?_ ?_) | omega | simp (maxSteps := 1000000) only [go_sem, simprocAttr, ↓reduceIte])
  refine VcLoop.intro (fun x : List Nat => ⟨89, [(68, .ptr 2 0), (14, .own 1), (1, .int .i64 least)], [(0, .map (gKs .str ws) (gVs ws)), (1, .row 30 (wdR (pickW ws least (x.map fun j => (uqG ws).getD j [])))), (2, .iter 0 (gKs .str ws).length x)], 3⟩) (fun x => x.Nodup ∧ ∀ j, j ∈ x → j < (uqG ws).length) (fun x => left (uqG ws).length x) [] ?_ ⟨List.nodup_nil, fun j hj => by cases hj⟩ fun x hx => ?_
  · refine Ent.auto0 rfl ?_ ?_ <;> simp only [go_sem, reduceCtorEq, reduceIte, Nat.reduceEqDiff, Nat.reduceLT, Nat.reduceLeDiff, Int.natCast_succ, ren_gKs, ren_gVs, below_gKs, below_gVs, mk_gKs, mk_gVs]
    all_goals rfl
  obtain ⟨hn, hs⟩ := hx
  have hxl : x.length ≤ (uqG ws).length := by
    have := nodup_lt hn hs
    exact this
  have e4 := isI_g ws
  have e5 : KeysT Tryd.prog 9 (gKs .str ws) := keysT_g (by kernel_rfl) _
  (repeat' first | with_reducible (first | intro _ | refine rc ?_ | refine rl ?_ | refine rh ?_ | refine rt ?_ | refine rf ?_ | refine rs ?_ | refine And.intro ?_ ?_) | omega | simp (maxSteps := 1000000) only [go_sem, simprocAttr, ↓reduceIte])
  refine VcNext.intro (fun j kx vx hj hkx hvx => ?_) (fun hall => ?_)
  · obtain ⟨hjl, rfl, hkm⟩ := gKs_at hkx
    obtain rfl := gVs_at hvx
    have hlt := left_lt hj hjl
    have hs' : ∀ j', j' ∈ x ++ [j] → j' < (uqG ws).length := fun j' hj' => by
      rcases List.mem_append.1 hj' with h' | h'
      · exact hs j' h'
      · simp at h'; subst h'; exact hjl
    have hn' : (x ++ [j]).Nodup := List.nodup_append.2 ⟨hn, by simp, fun a ha b hb e => by rw [List.mem_singleton.1 hb] at e; subst e; exact hj ha⟩
    have hcb := cntG_bd ws ((uqG ws).getD j [])
    have hps := pickW_snoc ws least (x.map fun j => (uqG ws).getD j []) ((uqG ws).getD j [])
    rw [show x.map (fun j => (uqG ws).getD j []) ++ [(uqG ws).getD j []] = (x ++ [j]).map fun j => (uqG ws).getD j [] by simp] at hps
    have hpl : (pickW ws least (x.map fun j => (uqG ws).getD j [])).length ≤ 10000000 := by
      unfold pickW
      rw [List.length_map]
      have := List.length_filter_le (fun k => decide (least ≤ cntG ws k)) (x.map fun j => (uqG ws).getD j [])
      rw [List.length_map] at this
      have h2 := uqG_len ws
      omega
    generalize pickW ws least (x.map fun j => (uqG ws).getD j []) = P at *
    generalize (uqG ws).getD j [] = key at *
    have hsn := wd_snoc P key (cntG ws key)
    (repeat' first | with_reducible (first | intro _ | refine rc ?_ | refine rl ?_ | refine rh ?_ | refine rt ?_ | refine rf ?_ | refine rs ?_ | refine And.intro ?_ ?_) | omega | simp (maxSteps := 1000000) only [go_sem, simprocAttr, ↓reduceIte])
    refine VcEnt.intro hkx hvx ?_
    by_cases hc : least ≤ cntG ws key
    · rw [if_pos hc] at hps
      (repeat' first | with_reducible (first | intro _ | refine rc ?_ | refine rl ?_ | refine rh ?_ | refine rt ?_ | refine rf ?_ | refine rs ?_ | refine And.intro ?_ ?_) | omega | simp (maxSteps := 1000000) only [go_sem, simprocAttr, ↓reduceIte, e4, e5, List.length_map])
      refine ⟨x ++ [j], Ent.auto0 rfl ?_ ?_, ⟨hn', hs'⟩, hlt⟩ <;> simp only [go_sem, reduceCtorEq, reduceIte, Nat.reduceEqDiff, Nat.reduceLT, Nat.reduceLeDiff, Int.natCast_succ, hps, hsn, ren_gKs, ren_gVs, below_gKs, below_gVs, mk_gKs, mk_gVs]
    · rw [if_neg hc] at hps
      (repeat' first | with_reducible (first | intro _ | refine rc ?_ | refine rl ?_ | refine rh ?_ | refine rt ?_ | refine rf ?_ | refine rs ?_ | refine And.intro ?_ ?_) | omega | simp (maxSteps := 1000000) only [go_sem, simprocAttr, ↓reduceIte, e4, e5, List.length_map])
      refine ⟨x ++ [j], Ent.auto0 rfl ?_ ?_, ⟨hn', hs'⟩, hlt⟩ <;> simp only [go_sem, reduceCtorEq, reduceIte, Nat.reduceEqDiff, Nat.reduceLT, Nat.reduceLeDiff, Int.natCast_succ, hps, ren_gKs, ren_gVs, below_gKs, below_gVs, mk_gKs, mk_gVs]
  have hPp := pick_all (ws := ws) (least := least) hK hn hs (fun j hj => hall j (by rw [hkl]; exact hj))
  have hPn : ((pickW ws least (x.map fun j => (uqG ws).getD j [])).map Wd.t).Nodup := (hPp.map Wd.t).nodup_iff.2 (pickW_nodup hK)
  have hPok : ∀ y, y ∈ pickW ws least (x.map fun j => (uqG ws).getD j []) → WdOk y := fun y hy => by
    obtain ⟨h1, h2⟩ := pickW_mem (hPp.mem_iff.1 hy)
    have h3 := hww y.t (mem_uqG.1 h1)
    have h4 := cntG_bd ws y.t
    unfold WdOk
    omega
  have hsr : sortW (pickW ws least (x.map fun j => (uqG ws).getD j [])) = learnL ws least := sortW_perm_eq hPp (pickW_nodup hK)
  have hPl := hPp.length_eq
  rw [← hle] at hPl
  have hul : (learnL ws least).length ≤ 10000000 := by
    rw [hle]
    unfold pickW
    rw [List.length_map]
    have := List.length_filter_le (fun k => decide (least ≤ cntG ws k)) (uqG ws)
    have h2 := uqG_len ws
    omega
  have kS := sortWd_io 24 (fun x y => FnFr.of_ok (learn1_ok x y) rfl rfl) _ hPok hPn (by omega)
  rw [hsr] at kS
  generalize pickW ws least (x.map fun j => (uqG ws).getD j []) = P at *
  clear hsr hPp hPn hPok
  generalize learnL ws least = R at *
  by_cases hc : 5000 < R.length
  · (repeat' first | with_reducible (first | intro _ | refine rc ?_ | refine rl ?_ | refine rh ?_ | refine rt ?_ | refine rf ?_ | refine rs ?_ | refine And.intro ?_ ?_) | omega | simp (maxSteps := 1000000) only [go_sem, simprocAttr, ↓reduceIte, List.length_map])
    refine Ret.auto 1 ?_ rfl ?_ <;> simp only [go_sem, reduceCtorEq, reduceIte, Nat.reduceEqDiff, Nat.reduceLT, Nat.reduceLeDiff, Int.natCast_succ, Post, hc, h1, h2, ren_gKs, ren_gVs, below_gKs, below_gVs, mk_gKs, mk_gVs]
    all_goals simp [h1, h2, hc]
  · (repeat' first | with_reducible (first | intro _ | refine rc ?_ | refine rl ?_ | refine rh ?_ | refine rt ?_ | refine rf ?_ | refine rs ?_ | refine And.intro ?_ ?_) | omega | simp (maxSteps := 1000000) only [go_sem, simprocAttr, ↓reduceIte, List.length_map])
    refine VcCall.ioL [1] kS rfl (by simp [noRoRows, noRoItem, noRoRow, noRoL, noRo, Wd.av]) (by decide) ⟨_, _, .inl ⟨rfl, rfl⟩, ⟨_, _, .inr (by simp only [noIdR_ok, argOkL, argOk, allOk, argOkN, List.drop_zero, lk, reduceIte, reduceCtorEq, Nat.reduceEqDiff, Option.some.injEq, Item.row.injEq, Item.box.injEq, AV.ro.injEq, exists_eq_left, exists_and_left, exists_eq_left', exists_eq_right, and_assoc, and_true, true_and, List.cons.injEq, exists_eq', exists_eq, delL, del]), rfl, rfl⟩, rfl⟩ (by simp [subOk, ioN, lk, Item.ren, Item.below, renR_ok, belowR_ok]) covO1W 1 (by decide) rfl (by simp [rowsB, Item.below, belowR, belowL, Fv.below, Wd.av, ren_gKs, ren_gVs, below_gKs, below_gVs, mk_gKs, mk_gVs]) ?_
    (repeat' first | with_reducible (first | intro _ | refine rc ?_ | refine rl ?_ | refine rh ?_ | refine rt ?_ | refine rf ?_ | refine rs ?_ | refine And.intro ?_ ?_) | omega | simp (maxSteps := 1000000) only [go_sem, simprocAttr, ↓reduceIte, S.ioS, ioRows, ioN, delL, Item.ren, renR_ok, noIdR_ok, ren_gKs, ren_gVs, List.length_cons, List.length_nil, List.length_map, Int.cast_ofNat_Int, List.getElem?_cons_zero, List.getElem?_cons_succ, List.cons_append, List.nil_append, Nat.reduceAdd, Nat.sub_self, Nat.add_zero, List.filter])
    refine Ret.auto 1 ?_ rfl ?_ <;> simp only [go_sem, reduceCtorEq, reduceIte, Nat.reduceEqDiff, Nat.reduceLT, Nat.reduceLeDiff, Int.natCast_succ, Post, hc, h1, h2, ren_gKs, ren_gVs, below_gKs, below_gVs, mk_gKs, mk_gVs]
    all_goals simp [h1, h2, hc]
set_option maxHeartbeats 8000000 in
theorem refLearn_ok (T : List Bytes) (hT : lenSum T ≤ 1048576) (least : Int) : FnOk Tryd.prog 7 [.ro (.strs T), .int .i64 least] (.tup [.own 0, .int .i64 (learnErr T least)]) [(0, .row 30 (wdR (learnOut T least)))] := by
  refine FnOk.of_vc Tryd.func7 rfl (by decide) (by simp [Tryd.f7]) [.tmp 4, .tmp 5] rfl fun w0 T0 _ => ?_
  simp only [Tryd.f7, argEnv]
  (repeat' first | with_reducible (first | intro _ | refine rc ?_ | refine rl ?_ | refine rh ?_ | refine rt ?_ | refine rf ?_ | refine rs ?_ | refine And.intro ?_ ?_) | omega | simp (maxSteps := 1000000) only [go_sem, simprocAttr, ↓reduceIte])
  refine VcLoop.intro (fun i : Nat => ⟨89, [(19, .int .i64 i), (18, .int .i64 T.length), (17, .ro (.strs T)), (6, .int .i64 (lenSum (T.take i) : Nat)), (0, .ro (.strs T)), (1, .int .i64 least)], [], 0⟩) (fun i => i ≤ T.length) (fun i => T.length - i) 0 ?_ (Nat.zero_le _) fun i hi => ?_
  · refine Ent.auto0 rfl ?_ ?_ <;> simp only [go_sem, reduceCtorEq, reduceIte, Nat.reduceEqDiff, Nat.reduceLT, Nat.reduceLeDiff, Int.natCast_succ, List.take_zero, lenSum, List.map_nil, List.sum_nil]
  by_cases hlt : i < T.length
  · have hs := lenSum_take hlt
    have hl := lenSum_le T (i + 1)
    rw [hs] at hl
    generalize lenSum (T.take i) = S at *
    (repeat' first | with_reducible (first | intro _ | refine rc ?_ | refine rl ?_ | refine rh ?_ | refine rt ?_ | refine rf ?_ | refine rs ?_ | refine And.intro ?_ ?_) | omega | simp (maxSteps := 1000000) only [go_sem, simprocAttr, ↓reduceIte, elemA])
    refine ⟨i + 1, Ent.auto0 rfl ?_ ?_, by omega, by omega⟩ <;> simp only [go_sem, reduceCtorEq, reduceIte, Nat.reduceEqDiff, Nat.reduceLT, Nat.reduceLeDiff, Int.natCast_succ, hs]
    all_goals omega
  have e : i = T.length := by omega
  subst e
  rw [List.take_length]
  unfold learnOut learnErr
  by_cases h1 : 1000 < T.length
  · have h1' : (1000 : Int) < T.length := by omega
    (repeat' first | with_reducible (first | intro _ | refine rc ?_ | refine rl ?_ | refine rh ?_ | refine rt ?_ | refine rf ?_ | refine rs ?_ | refine And.intro ?_ ?_) | omega | simp (maxSteps := 1000000) only [go_sem, simprocAttr, ↓reduceIte, h1'])
    refine Ret.auto 1 ?_ rfl ?_ <;> simp only [go_sem, reduceCtorEq, reduceIte, Nat.reduceEqDiff, Nat.reduceLT, Nat.reduceLeDiff, Int.natCast_succ, Post, h1, learnErr]
    all_goals simp [h1]
  have h1' : ¬ (1000 : Int) < T.length := by omega
  by_cases h2 : least < 1 ∨ 1000000000 < least
  · (repeat' first | with_reducible (first | intro _ | refine rc ?_ | refine rl ?_ | refine rh ?_ | refine rt ?_ | refine rf ?_ | refine rs ?_ | refine And.intro ?_ ?_) | omega | simp (maxSteps := 1000000) only [go_sem, simprocAttr, ↓reduceIte, h1', h2])
    refine Ret.auto 1 ?_ rfl ?_ <;> simp only [go_sem, reduceCtorEq, reduceIte, Nat.reduceEqDiff, Nat.reduceLT, Nat.reduceLeDiff, Int.natCast_succ, Post, h1, h2, learnErr]
    all_goals simp [h1, h2]
  (repeat' first | with_reducible (first | intro _ | refine rc ?_ | refine rl ?_ | refine rh ?_ | refine rt ?_ | refine rf ?_ | refine rs ?_ | refine And.intro ?_ ?_) | omega | simp (maxSteps := 1000000) only [go_sem, simprocAttr, ↓reduceIte, h1', h2])
  refine VcLoop.intro (fun i : Nat => ⟨89, [(46, .int .i64 i), (45, .int .i64 T.length), (44, .ro (.strs T)), (9, .own 0), (0, .ro (.strs T)), (1, .int .i64 least)], [(0, .map (gKs .str (wordsAll (T.take i))) (gVs (wordsAll (T.take i))))], 1⟩) (fun i => i ≤ T.length) (fun i => T.length - i) 0 ?_ (Nat.zero_le _) fun i hi => ?_
  · refine Ent.auto0 rfl ?_ ?_ <;> simp only [go_sem, reduceCtorEq, reduceIte, Nat.reduceEqDiff, Nat.reduceLT, Nat.reduceLeDiff, Int.natCast_succ, List.take_zero, wordsAll, List.flatMap_nil, ren_gKs, ren_gVs, below_gKs, below_gVs, mk_gKs, mk_gVs]
    all_goals first | rfl | exact ⟨rfl, rfl⟩
  by_cases hlt : i < T.length
  · have hs := lenSum_take hlt
    have hl := lenSum_le T (i + 1)
    rw [hs] at hl
    have hw := wordsAll_take hlt
    have hwl := wordsAll_len (T.take i)
    rw [List.length_take] at hwl
    have hll := toks_len _ (T.getD i []) [] [] (Nat.le_refl _)
    simp only [List.length_nil] at hll
    have c1 := refTokens_ok (T.getD i []) (by omega)
    have hwi : wordsIn (T.getD i []) = (wds (toks (T.getD i []) [] [])).map smallL := rfl
    rw [hwi] at hw
    generalize toks (T.getD i []) [] [] = l at *
    generalize hW : wordsAll (T.take i) = W at *
    generalize lenSum (T.take i) = S at *
    clear hs hwi
    (repeat' first | with_reducible (first | intro _ | refine rc ?_ | refine rl ?_ | refine rh ?_ | refine rt ?_ | refine rf ?_ | refine rs ?_ | refine And.intro ?_ ?_) | omega | simp (maxSteps := 1000000) only [go_sem, simprocAttr, ↓reduceIte, elemA])
    refine VcCall.ro (.ro (tkR l)) (FnFr.of_ok c1 rfl (by simp [noRoRows, noRoItem, noRoRow, noRoL, noRo, tkR, tkAv])) (by simp only [noIdR_ok, argOkL, argOk, allOk, argOkN, List.drop_zero, lk, reduceIte, reduceCtorEq, Nat.reduceEqDiff, Option.some.injEq, Item.row.injEq, Item.box.injEq, AV.ro.injEq, exists_eq_left, exists_and_left, exists_eq_left', exists_eq_right, and_assoc, and_true, true_and, List.cons.injEq, exists_eq', exists_eq]) (by simp [outOk, argOkL, allOk, argOk, argOkN, lk, noIdR_ok, tkR]) rfl ?_
    (repeat' first | with_reducible (first | intro _ | refine rc ?_ | refine rl ?_ | refine rh ?_ | refine rt ?_ | refine rf ?_ | refine rs ?_ | refine And.intro ?_ ?_) | omega | simp (maxSteps := 1000000) only [go_sem, simprocAttr, ↓reduceIte, tkR, List.length_map])
    refine VcLoop.intro (fun j : Nat => ⟨89, [(53, .int .i64 j), (52, .int .i64 l.length), (51, .ro (tkR l)), (46, .int .i64 i), (45, .int .i64 T.length), (44, .ro (.strs T)), (9, .own 0), (0, .ro (.strs T)), (1, .int .i64 least)], [(0, .map (gKs .str (W ++ (wds (l.take j)).map smallL)) (gVs (W ++ (wds (l.take j)).map smallL)))], 1⟩) (fun j => j ≤ l.length) (fun j => l.length - j) 0 ?_ (Nat.zero_le _) fun j hj => ?_
    · refine Ent.auto0 rfl ?_ ?_ <;> simp only [go_sem, reduceCtorEq, reduceIte, Nat.reduceEqDiff, Nat.reduceLT, Nat.reduceLeDiff, Int.natCast_succ, tkR, List.take_zero, List.map_nil, List.append_nil, ren_gKs, ren_gVs, below_gKs, below_gVs, mk_gKs, mk_gVs]
      all_goals first | rfl | simp [wds]
    by_cases hjl : j < l.length
    · have hel := tk_elem l hjl
      have hst := wds_take l hjl
      have hvl := wds_len (l.take j)
      have hvl2 : (l.take j).length ≤ l.length := by simp; omega
      generalize l.getD j ([], false) = z at *
      obtain ⟨z1, z2⟩ := z
      dsimp only at hel hst
      cases z2 with
      | true =>
        rw [if_pos rfl] at hst
        have ks := refSmall_ok z1
        have hVe : W ++ (wds (l.take (j + 1))).map smallL = W ++ (wds (l.take j)).map smallL ++ [smallL z1] := by rw [hst, List.map_append, List.append_assoc]; rfl
        have hVl : (W ++ (wds (l.take j)).map smallL).length ≤ 10000000 := by rw [List.length_append, List.length_map]; omega
        generalize W ++ (wds (l.take j)).map smallL = V at *
        have hcb := cntG_bd V (smallL z1)
        have e1 := getI_g strK V (smallL z1)
        have e2 := updKs_g strK V (smallL z1)
        have e3 := updVs_g strK V (smallL z1)
        have e4 := isI_g V
        have e5 : KeysT Tryd.prog 9 (gKs .str V) := keysT_g (by kernel_rfl) _
        (repeat' first | with_reducible (first | intro _ | refine rc ?_ | refine rl ?_ | refine rh ?_ | refine rt ?_ | refine rf ?_ | refine rs ?_ | refine And.intro ?_ ?_) | omega | simp (maxSteps := 1000000) only [go_sem, simprocAttr, ↓reduceIte, elemA, hel, tkR, List.length_map])
        refine VcCall.k (ks) ?_
        (repeat' first | with_reducible (first | intro _ | refine rc ?_ | refine rl ?_ | refine rh ?_ | refine rt ?_ | refine rf ?_ | refine rs ?_ | refine And.intro ?_ ?_) | omega | simp (maxSteps := 1000000) only [go_sem, simprocAttr, ↓reduceIte, e1, e2, e3, e4, e5])
        refine ⟨j + 1, Ent.auto0 rfl ?_ ?_, by omega, by omega⟩ <;> simp only [go_sem, reduceCtorEq, reduceIte, Nat.reduceEqDiff, Nat.reduceLT, Nat.reduceLeDiff, Int.natCast_succ, tkR, hVe, ren_gKs, ren_gVs, below_gKs, below_gVs, mk_gKs, mk_gVs]
      | false =>
        rw [if_neg (by decide), List.append_nil] at hst
        (repeat' first | with_reducible (first | intro _ | refine rc ?_ | refine rl ?_ | refine rh ?_ | refine rt ?_ | refine rf ?_ | refine rs ?_ | refine And.intro ?_ ?_) | omega | simp (maxSteps := 1000000) only [go_sem, simprocAttr, ↓reduceIte, elemA, hel, tkR, List.length_map])
        refine ⟨j + 1, Ent.auto0 rfl ?_ ?_, by omega, by omega⟩ <;> simp only [go_sem, reduceCtorEq, reduceIte, Nat.reduceEqDiff, Nat.reduceLT, Nat.reduceLeDiff, Int.natCast_succ, tkR, hst, ren_gKs, ren_gVs, below_gKs, below_gVs, mk_gKs, mk_gVs]
    · have e : j = l.length := by omega
      subst e
      rw [List.take_length, ← hw]
      (repeat' first | with_reducible (first | intro _ | refine rc ?_ | refine rl ?_ | refine rh ?_ | refine rt ?_ | refine rf ?_ | refine rs ?_ | refine And.intro ?_ ?_) | omega | simp (maxSteps := 1000000) only [go_sem, simprocAttr, ↓reduceIte, tkR, List.length_map])
      refine ⟨i + 1, Ent.auto0 rfl ?_ ?_, by omega, by omega⟩ <;> simp only [go_sem, reduceCtorEq, reduceIte, Nat.reduceEqDiff, Nat.reduceLT, Nat.reduceLeDiff, Int.natCast_succ, hw, ren_gKs, ren_gVs, below_gKs, below_gVs, mk_gKs, mk_gVs]
  have e : i = T.length := by omega
  subst e
  rw [List.take_length]
  have hwl := wordsAll_len T
  have hww := fun x (hx : x ∈ wordsAll T) => wordsAll_word hx
  have hle : (learnL (wordsAll T) least).length = (pickW (wordsAll T) least (uqG (wordsAll T))).length := by unfold learnL; rw [(sortW_perm _).length_eq]
  generalize wordsAll T = ws at *
  have hK := uqG_nodup ws
  have hkl := gKs_len ws
  (repeat' first | with_reducible (first | intro _ | refine rc ?_ | refine rl ?_ | refine rh ?_ | refine rt ?_ | refine rf ?_ | refine rs ?_ | refine And.intro ?_ ?_) | omega | simp (maxSteps := 1000000) only [go_sem, simprocAttr, ↓reduceIte])
  refine VcLoop.intro (fun x : List Nat => ⟨89, [(68, .ptr 2 0), (14, .own 1), (1, .int .i64 least)], [(0, .map (gKs .str ws) (gVs ws)), (1, .row 30 (wdR (pickW ws least (x.map fun j => (uqG ws).getD j [])))), (2, .iter 0 (gKs .str ws).length x)], 3⟩) (fun x => x.Nodup ∧ ∀ j, j ∈ x → j < (uqG ws).length) (fun x => left (uqG ws).length x) [] ?_ ⟨List.nodup_nil, fun j hj => by cases hj⟩ fun x hx => ?_
  · refine Ent.auto0 rfl ?_ ?_ <;> simp only [go_sem, reduceCtorEq, reduceIte, Nat.reduceEqDiff, Nat.reduceLT, Nat.reduceLeDiff, Int.natCast_succ, ren_gKs, ren_gVs, below_gKs, below_gVs, mk_gKs, mk_gVs]
    all_goals rfl
  obtain ⟨hn, hs⟩ := hx
  have hxl : x.length ≤ (uqG ws).length := by
    have := nodup_lt hn hs
    exact this
  have e4 := isI_g ws
  have e5 : KeysT Tryd.prog 9 (gKs .str ws) := keysT_g (by kernel_rfl) _
  (repeat' first | with_reducible (first | intro _ | refine rc ?_ | refine rl ?_ | refine rh ?_ | refine rt ?_ | refine rf ?_ | refine rs ?_ | refine And.intro ?_ ?_) | omega | simp (maxSteps := 1000000) only [go_sem, simprocAttr, ↓reduceIte])
  refine VcNext.intro (fun j kx vx hj hkx hvx => ?_) (fun hall => ?_)
  · obtain ⟨hjl, rfl, hkm⟩ := gKs_at hkx
    obtain rfl := gVs_at hvx
    have hlt := left_lt hj hjl
    have hs' : ∀ j', j' ∈ x ++ [j] → j' < (uqG ws).length := fun j' hj' => by
      rcases List.mem_append.1 hj' with h' | h'
      · exact hs j' h'
      · simp at h'; subst h'; exact hjl
    have hn' : (x ++ [j]).Nodup := List.nodup_append.2 ⟨hn, by simp, fun a ha b hb e => by rw [List.mem_singleton.1 hb] at e; subst e; exact hj ha⟩
    have hcb := cntG_bd ws ((uqG ws).getD j [])
    have hps := pickW_snoc ws least (x.map fun j => (uqG ws).getD j []) ((uqG ws).getD j [])
    rw [show x.map (fun j => (uqG ws).getD j []) ++ [(uqG ws).getD j []] = (x ++ [j]).map fun j => (uqG ws).getD j [] by simp] at hps
    have hpl : (pickW ws least (x.map fun j => (uqG ws).getD j [])).length ≤ 10000000 := by
      unfold pickW
      rw [List.length_map]
      have := List.length_filter_le (fun k => decide (least ≤ cntG ws k)) (x.map fun j => (uqG ws).getD j [])
      rw [List.length_map] at this
      have h2 := uqG_len ws
      omega
    generalize pickW ws least (x.map fun j => (uqG ws).getD j []) = P at *
    generalize (uqG ws).getD j [] = key at *
    have hsn := wd_snoc P key (cntG ws key)
    (repeat' first | with_reducible (first | intro _ | refine rc ?_ | refine rl ?_ | refine rh ?_ | refine rt ?_ | refine rf ?_ | refine rs ?_ | refine And.intro ?_ ?_) | omega | simp (maxSteps := 1000000) only [go_sem, simprocAttr, ↓reduceIte])
    refine VcEnt.intro hkx hvx ?_
    by_cases hc : least ≤ cntG ws key
    · rw [if_pos hc] at hps
      (repeat' first | with_reducible (first | intro _ | refine rc ?_ | refine rl ?_ | refine rh ?_ | refine rt ?_ | refine rf ?_ | refine rs ?_ | refine And.intro ?_ ?_) | omega | simp (maxSteps := 1000000) only [go_sem, simprocAttr, ↓reduceIte, e4, e5, List.length_map])
      refine ⟨x ++ [j], Ent.auto0 rfl ?_ ?_, ⟨hn', hs'⟩, hlt⟩ <;> simp only [go_sem, reduceCtorEq, reduceIte, Nat.reduceEqDiff, Nat.reduceLT, Nat.reduceLeDiff, Int.natCast_succ, hps, hsn, ren_gKs, ren_gVs, below_gKs, below_gVs, mk_gKs, mk_gVs]
    · rw [if_neg hc] at hps
      (repeat' first | with_reducible (first | intro _ | refine rc ?_ | refine rl ?_ | refine rh ?_ | refine rt ?_ | refine rf ?_ | refine rs ?_ | refine And.intro ?_ ?_) | omega | simp (maxSteps := 1000000) only [go_sem, simprocAttr, ↓reduceIte, e4, e5, List.length_map])
      refine ⟨x ++ [j], Ent.auto0 rfl ?_ ?_, ⟨hn', hs'⟩, hlt⟩ <;> simp only [go_sem, reduceCtorEq, reduceIte, Nat.reduceEqDiff, Nat.reduceLT, Nat.reduceLeDiff, Int.natCast_succ, hps, ren_gKs, ren_gVs, below_gKs, below_gVs, mk_gKs, mk_gVs]
  have hPp := pick_all (ws := ws) (least := least) hK hn hs (fun j hj => hall j (by rw [hkl]; exact hj))
  have hPn : ((pickW ws least (x.map fun j => (uqG ws).getD j [])).map Wd.t).Nodup := (hPp.map Wd.t).nodup_iff.2 (pickW_nodup hK)
  have hPok : ∀ y, y ∈ pickW ws least (x.map fun j => (uqG ws).getD j []) → WdOk y := fun y hy => by
    obtain ⟨h1, h2⟩ := pickW_mem (hPp.mem_iff.1 hy)
    have h3 := hww y.t (mem_uqG.1 h1)
    have h4 := cntG_bd ws y.t
    unfold WdOk
    omega
  have hsr : sortW (pickW ws least (x.map fun j => (uqG ws).getD j [])) = learnL ws least := sortW_perm_eq hPp (pickW_nodup hK)
  have hPl := hPp.length_eq
  rw [← hle] at hPl
  have hul : (learnL ws least).length ≤ 10000000 := by
    rw [hle]
    unfold pickW
    rw [List.length_map]
    have := List.length_filter_le (fun k => decide (least ≤ cntG ws k)) (uqG ws)
    have h2 := uqG_len ws
    omega
  have kS := sortWd_io 28 (fun x y => FnFr.of_ok (refLearn1_ok x y) rfl rfl) _ hPok hPn (by omega)
  rw [hsr] at kS
  generalize pickW ws least (x.map fun j => (uqG ws).getD j []) = P at *
  clear hsr hPp hPn hPok
  generalize learnL ws least = R at *
  by_cases hc : 5000 < R.length
  · (repeat' first | with_reducible (first | intro _ | refine rc ?_ | refine rl ?_ | refine rh ?_ | refine rt ?_ | refine rf ?_ | refine rs ?_ | refine And.intro ?_ ?_) | omega | simp (maxSteps := 1000000) only [go_sem, simprocAttr, ↓reduceIte, List.length_map])
    refine VcCall.ioL [1] kS rfl (by simp [noRoRows, noRoItem, noRoRow, noRoL, noRo, Wd.av]) (by decide) ⟨_, _, .inl ⟨rfl, rfl⟩, ⟨_, _, .inr (by simp only [noIdR_ok, argOkL, argOk, allOk, argOkN, List.drop_zero, lk, reduceIte, reduceCtorEq, Nat.reduceEqDiff, Option.some.injEq, Item.row.injEq, Item.box.injEq, AV.ro.injEq, exists_eq_left, exists_and_left, exists_eq_left', exists_eq_right, and_assoc, and_true, true_and, List.cons.injEq, exists_eq', exists_eq, delL, del]), rfl, rfl⟩, rfl⟩ (by simp [subOk, ioN, lk, Item.ren, Item.below, renR_ok, belowR_ok]) covO1W 1 (by decide) rfl (by simp [rowsB, Item.below, belowR, belowL, Fv.below, Wd.av, ren_gKs, ren_gVs, below_gKs, below_gVs, mk_gKs, mk_gVs]) ?_
    (repeat' first | with_reducible (first | intro _ | refine rc ?_ | refine rl ?_ | refine rh ?_ | refine rt ?_ | refine rf ?_ | refine rs ?_ | refine And.intro ?_ ?_) | omega | simp (maxSteps := 1000000) only [go_sem, simprocAttr, ↓reduceIte, S.ioS, ioRows, ioN, delL, Item.ren, renR_ok, noIdR_ok, ren_gKs, ren_gVs, List.length_cons, List.length_nil, List.length_map, Int.cast_ofNat_Int, List.getElem?_cons_zero, List.getElem?_cons_succ, List.cons_append, List.nil_append, Nat.reduceAdd, Nat.sub_self, Nat.add_zero, List.filter])
    refine Ret.auto 1 ?_ rfl ?_ <;> simp only [go_sem, reduceCtorEq, reduceIte, Nat.reduceEqDiff, Nat.reduceLT, Nat.reduceLeDiff, Int.natCast_succ, Post, hc, h1, h2, ren_gKs, ren_gVs, below_gKs, below_gVs, mk_gKs, mk_gVs]
    all_goals simp [h1, h2, hc]
  · (repeat' first | with_reducible (first | intro _ | refine rc ?_ | refine rl ?_ | refine rh ?_ | refine rt ?_ | refine rf ?_ | refine rs ?_ | refine And.intro ?_ ?_) | omega | simp (maxSteps := 1000000) only [go_sem, simprocAttr, ↓reduceIte, List.length_map])
    refine VcCall.ioL [1] kS rfl (by simp [noRoRows, noRoItem, noRoRow, noRoL, noRo, Wd.av]) (by decide) ⟨_, _, .inl ⟨rfl, rfl⟩, ⟨_, _, .inr (by simp only [noIdR_ok, argOkL, argOk, allOk, argOkN, List.drop_zero, lk, reduceIte, reduceCtorEq, Nat.reduceEqDiff, Option.some.injEq, Item.row.injEq, Item.box.injEq, AV.ro.injEq, exists_eq_left, exists_and_left, exists_eq_left', exists_eq_right, and_assoc, and_true, true_and, List.cons.injEq, exists_eq', exists_eq, delL, del]), rfl, rfl⟩, rfl⟩ (by simp [subOk, ioN, lk, Item.ren, Item.below, renR_ok, belowR_ok]) covO1W 1 (by decide) rfl (by simp [rowsB, Item.below, belowR, belowL, Fv.below, Wd.av, ren_gKs, ren_gVs, below_gKs, below_gVs, mk_gKs, mk_gVs]) ?_
    (repeat' first | with_reducible (first | intro _ | refine rc ?_ | refine rl ?_ | refine rh ?_ | refine rt ?_ | refine rf ?_ | refine rs ?_ | refine And.intro ?_ ?_) | omega | simp (maxSteps := 1000000) only [go_sem, simprocAttr, ↓reduceIte, S.ioS, ioRows, ioN, delL, Item.ren, renR_ok, noIdR_ok, ren_gKs, ren_gVs, List.length_cons, List.length_nil, List.length_map, Int.cast_ofNat_Int, List.getElem?_cons_zero, List.getElem?_cons_succ, List.cons_append, List.nil_append, Nat.reduceAdd, Nat.sub_self, Nat.add_zero, List.filter])
    refine Ret.auto 1 ?_ rfl ?_ <;> simp only [go_sem, reduceCtorEq, reduceIte, Nat.reduceEqDiff, Nat.reduceLT, Nat.reduceLeDiff, Int.natCast_succ, Post, hc, h1, h2, ren_gKs, ren_gVs, below_gKs, below_gVs, mk_gKs, mk_gVs]
    all_goals simp [h1, h2, hc]
end Go.Fv.V
