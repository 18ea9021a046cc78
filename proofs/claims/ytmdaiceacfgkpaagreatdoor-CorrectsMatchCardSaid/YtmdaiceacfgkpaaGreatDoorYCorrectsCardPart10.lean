/-
  A part of the proof of the claim: walks over the program's functions and the plain laws that these need. No condition of its own.
-/
import Derived.Test.YtmdaiceacfgkpaaGreatDoorYCorrectsCardPart9
import Derived.Test.YtmdaiceacfgkpaaGreatDoorYCorrectsCardPart3
import Derived.Test.YtmdaiceacfgkpaaGreatDoorFvPart9
import Derived.Test.YtmdaiceacfgkpaaGreatDoorYCorrectsCardPart1
import Derived.Test.YtmdaiceacfgkpaaGreatDoorYCorrectsCardPart2
import Derived.Shelf.Strings.BuilderX
import Derived.Shelf.RegionOpenPlain
import Derived.Lib.Builder
import Derived.Lib.Walk
import Derived.WalkKit
import Derived.Laws.Externs
/- The reference's closure that puts tokens. -/
namespace Go.Fv.Y
open Go Go.Proofs
set_option linter.unusedSimpArgs false
set_option linter.unusedVariables false
set_option linter.unnecessarySimpa false
set_option maxRecDepth 8000

def putB (btw t : Bytes) (w : Bool) : Bytes := if w = true then [] else btw ++ t
def putO (out : List Tok) (btw t : Bytes) (w : Bool) : List Tok := if w = true then flush out btw ++ [(t, true)] else out

set_option maxHeartbeats 2000000 in
theorem put_ok (out : List Tok) (btw t : Bytes) (w : Bool) (hl : out.length ≤ 1000000000) (hb : btw.length ≤ 1000000000) (ht : t.length ≤ 1000000000) :
    FnIO Tryz.prog 101 [.str t, .bool w, .ptr 0 0, .ptr 1 0] [(0, .box 9 [.str btw]), (1, .box 64 [.own 2]), (2, .row 67 (tkR out))] 3 (.tup [])
      [(0, .box 9 [.str (putB btw t w)]), (1, .box 64 [.own 3]), (3, .row 67 (tkR (putO out btw t w)))] := by
  refine FnIO.of_vc Tryz.func101 rfl (by decide) (by simp [Tryz.f101]) covA3 [] rfl fun w0 T0 _ => ?_
  simp only [Tryz.f101, argEnv]
  cases w with
  | false =>
    have e1 : putB btw t false = btw ++ t := rfl
    have e2 : putO out btw t false = out := rfl
    rw [e1, e2]
    (repeat' first | with_reducible (first | intro _ | refine rc ?_ | refine rl ?_ | refine rh ?_ | refine rt ?_ | refine rf ?_ | refine rs ?_ | refine And.intro ?_ ?_) | omega | simp (maxSteps := 1000000) only [go_sem, simprocAttr, ↓reduceIte, tkR, List.length_map, List.length_append])
    refine RetK.of [(3, 2)] 4 (by decide) (by decide) ?_ rfl ?_ <;> simp only [go_sem, reduceCtorEq, reduceIte, Nat.reduceEqDiff, Nat.reduceLT, Nat.reduceLeDiff, Int.natCast_succ]
  | true =>
    have e1 : putB btw t true = [] := rfl
    have e2 : putO out btw t true = flush out btw ++ [(t, true)] := rfl
    rw [e1, e2]
    by_cases h0 : btw = []
    · have e3 : flush out [] = out := if_pos rfl
      (repeat' first | with_reducible (first | intro _ | refine rc ?_ | refine rl ?_ | refine rh ?_ | refine rt ?_ | refine rf ?_ | refine rs ?_ | refine And.intro ?_ ?_) | omega | simp (maxSteps := 1000000) only [go_sem, simprocAttr, ↓reduceIte, h0, e3, tkR, List.length_map, List.length_append])
      refine RetK.of [(3, 4)] 4 (by decide) (by decide) ?_ rfl ?_ <;> simp only [go_sem, reduceCtorEq, reduceIte, Nat.reduceEqDiff, Nat.reduceLT, Nat.reduceLeDiff, Int.natCast_succ, tkAv, List.map_append, List.map_cons, List.map_nil]
    · have e3 : flush out btw = out ++ [(btw, false)] := if_neg h0
      (repeat' first | with_reducible (first | intro _ | refine rc ?_ | refine rl ?_ | refine rh ?_ | refine rt ?_ | refine rf ?_ | refine rs ?_ | refine And.intro ?_ ?_) | omega | simp (maxSteps := 1000000) only [go_sem, simprocAttr, ↓reduceIte, h0, e3, tkR, List.length_map, List.length_append])
      refine RetK.of [(3, 6)] 4 (by decide) (by decide) ?_ rfl ?_ <;> simp only [go_sem, reduceCtorEq, reduceIte, Nat.reduceEqDiff, Nat.reduceLT, Nat.reduceLeDiff, Int.natCast_succ, tkAv, List.map_append, List.map_cons, List.map_nil]
end Go.Fv.Y

/- The reference's Tokens. -/
namespace Go.Fv.Y
open Go Go.Proofs
set_option linter.unusedSimpArgs false
set_option linter.unusedVariables false
set_option linter.unnecessarySimpa false
set_option maxRecDepth 8000

theorem u_other {u : Bytes} (h : 0 < u.length) (hc : inW (u.getD 0 0) = false) (btw : Bytes) (out : List Tok) : toks u btw out = toks (u.drop 1) (btw ++ u.take 1) out := by
  cases u with
  | nil => simp at h
  | cons c u => exact toks_other hc btw out
theorem u_run {u : Bytes} {n : Nat} (hn : n ≤ u.length) (hr : ∀ j, j < n → inW (u.getD j 0) = true) (he : n < u.length → inW (u.getD n 0) = false) : u.takeWhile inW = u.take n ∧ u.dropWhile inW = u.drop n := by
  have := run_at (s := u) n 0 n (by omega) (Nat.zero_le _) hn (fun j _ h => hr j h) he
  simpa [sub] using this
theorem u_row {u : Bytes} {n : Nat} (h0 : 0 < n) (hn : n ≤ u.length) (hr : ∀ j, j < n → inW (u.getD j 0) = true) (he : n < u.length → inW (u.getD n 0) = false) (btw : Bytes) (out : List Tok) (hw : isWd (midQ (u.take n)) = false) :
    toks u btw out = toks (u.drop n) (btw ++ u.take n) out := by
  obtain ⟨e1, e2⟩ := u_run hn hr he
  cases u with
  | nil => simp at hn; omega
  | cons c u => rw [toks_row (c := c) (s := u) (hr 0 h0) _ _ (by rw [e1, hw]; decide), e1, e2]
theorem u_word {u : Bytes} {n : Nat} (h0 : 0 < n) (hn : n ≤ u.length) (hr : ∀ j, j < n → inW (u.getD j 0) = true) (he : n < u.length → inW (u.getD n 0) = false) (btw : Bytes) (out : List Tok) (hw : isWd (midQ (u.take n)) = true) :
    toks u btw out = toks (u.drop n) (postQ (dropQ (u.take n))) (flush out (btw ++ preQ (u.take n)) ++ [(midQ (u.take n), true)]) := by
  obtain ⟨e1, e2⟩ := u_run hn hr he
  cases u with
  | nil => simp at hn; omega
  | cons c u => rw [toks_word (c := c) (s := u) (hr 0 h0) _ _ (by rw [e1, hw]), e1, e2]

structure RtI where
  u : Bytes
  btw : Bytes
  out : List Tok
set_option maxHeartbeats 8000000 in
theorem refTokensB_ok (s : List UInt8) (hs : s.length ≤ 2097152) : FnOk Tryz.prog 65 [.str s] (.own 0) [(0, .row 67 (tkR (toks s [] [])))] := by
  refine FnOk.of_vc Tryz.func65 rfl (by decide) (by simp [Tryz.f65]) [.tmp 2] rfl fun w0 T0 _ => ?_
  simp only [Tryz.f65, argEnv]
  (repeat' first | with_reducible (first | intro _ | refine rc ?_ | refine rl ?_ | refine rh ?_ | refine rt ?_ | refine rf ?_ | refine rs ?_ | refine And.intro ?_ ?_) | omega | simp (maxSteps := 1000000) only [go_sem, simprocAttr, ↓reduceIte])
  refine VcLoop.intro (fun x : RtI => ⟨90, [(5, .fn 101 [.ptr 0 0, .ptr 1 0]), (4, .ptr 0 0), (3, .ptr 1 0), (0, .str x.u)], [(0, .box 9 [.str x.btw]), (1, .box 64 [.own 2]), (2, .row 67 (tkR x.out))], 3⟩) (fun x => x.btw.length + x.u.length ≤ s.length ∧ toks x.u x.btw x.out = toks s [] [] ∧ x.out.length + 2 * x.u.length ≤ 2 * s.length) (fun x => x.u.length) ⟨s, [], []⟩ ?_ ⟨by simp, rfl, by simp⟩ fun x hx => ?_
  · refine Ent.trans (Ent.nilBox (P := Tryz.prog) 1 0 67 e67 rfl rfl) (Ent.auto0 rfl ?_ ?_) <;> simp only [go_sem, reduceCtorEq, reduceIte, Nat.reduceEqDiff, Nat.reduceLT, Nat.reduceLeDiff, Int.natCast_succ, zrow, tkR, put, List.set_cons_zero, List.set_cons_succ, Nat.zero_mul, List.range_zero, List.map_nil, List.replicate_zero]
  obtain ⟨u, btw, out⟩ := x
  obtain ⟨hbu, ht, hou⟩ := hx
  dsimp only at hbu ht hou ⊢
  by_cases hu : u = []
  · subst hu
    rw [toks_nil] at ht
    rw [← ht]
    by_cases hb : btw = []
    · have e : flush out [] = out := if_pos rfl
      (repeat' first | with_reducible (first | intro _ | refine rc ?_ | refine rl ?_ | refine rh ?_ | refine rt ?_ | refine rf ?_ | refine rs ?_ | refine And.intro ?_ ?_) | omega | simp (maxSteps := 1000000) only [go_sem, simprocAttr, ↓reduceIte, hb, e, tkR])
      refine Ret.auto 1 ?_ rfl ?_ <;> simp only [go_sem, reduceCtorEq, reduceIte, Nat.reduceEqDiff, Nat.reduceLT, Nat.reduceLeDiff, Int.natCast_succ, Post]
    · have e : flush out btw = out ++ [(btw, false)] := if_neg hb
      (repeat' first | with_reducible (first | intro _ | refine rc ?_ | refine rl ?_ | refine rh ?_ | refine rt ?_ | refine rf ?_ | refine rs ?_ | refine And.intro ?_ ?_) | omega | simp (maxSteps := 1000000) only [go_sem, simprocAttr, ↓reduceIte, hb, e, tkR, List.length_map])
      refine Ret.auto 1 ?_ rfl ?_ <;> simp only [go_sem, reduceCtorEq, reduceIte, Nat.reduceEqDiff, Nat.reduceLT, Nat.reduceLeDiff, Int.natCast_succ, Post, tkAv, List.map_append, List.map_cons, List.map_nil]
  · have hul : 0 < u.length := List.length_pos_iff.2 hu
    (repeat' first | with_reducible (first | intro _ | refine rc ?_ | refine rl ?_ | refine rh ?_ | refine rt ?_ | refine rf ?_ | refine rs ?_ | refine And.intro ?_ ?_) | omega | simp (maxSteps := 1000000) only [go_sem, simprocAttr, ↓reduceIte, hu])
    refine VcLoop.intro (fun n : Nat => ⟨90, [(6, .int .i64 n), (5, .fn 101 [.ptr 0 0, .ptr 1 0]), (4, .ptr 0 0), (3, .ptr 1 0), (0, .str u)], [(0, .box 9 [.str btw]), (1, .box 64 [.own 2]), (2, .row 67 (tkR out))], 3⟩) (fun n => n ≤ u.length ∧ ∀ j, j < n → inW (u.getD j 0) = true) (fun n => u.length - n) 0 ?_ ⟨Nat.zero_le _, fun j h => absurd h (Nat.not_lt_zero j)⟩ fun n hn => ?_
    · refine Ent.auto0 rfl ?_ ?_ <;> simp only [go_sem, reduceCtorEq, reduceIte, Nat.reduceEqDiff, Nat.reduceLT, Nat.reduceLeDiff, Int.natCast_succ, tkR]
    obtain ⟨hn, hr⟩ := hn
    by_cases hkl : n < u.length
    · have hkl2 : (n : Int) < u.length := by omega
      (repeat' first | with_reducible (first | intro _ | refine rc ?_ | refine rl ?_ | refine rh ?_ | refine rt ?_ | refine rf ?_ | refine rs ?_ | refine And.intro ?_ ?_) | omega | simp (maxSteps := 1000000) only [go_sem, simprocAttr, ↓reduceIte, hkl2, Int.toNat_natCast])
      refine VcCall.fr (FnFr.of_ok (isLetter_ok (u.getD n 0)) rfl rfl) (by simp only [noIdR_ok, argOkL, argOk, allOk, argOkN, List.drop_zero, lk, reduceIte, reduceCtorEq, Nat.reduceEqDiff, Option.some.injEq, Item.row.injEq, Item.box.injEq, AV.ro.injEq, exists_eq_left, exists_and_left, exists_eq_left', exists_eq_right, and_assoc, and_true, true_and, List.cons.injEq, exists_eq', exists_eq]) 0 rfl (by simp [rowsB]) ?_
      cases hL : isL (u.getD n 0) with
      | true =>
        (repeat' first | with_reducible (first | intro _ | refine rc ?_ | refine rl ?_ | refine rh ?_ | refine rt ?_ | refine rf ?_ | refine rs ?_ | refine And.intro ?_ ?_) | omega | simp (maxSteps := 1000000) only [go_sem, simprocAttr, ↓reduceIte, hL])
        refine ⟨n + 1, Ent.auto0 rfl ?_ ?_, ⟨by omega, fun j h2 => ?_⟩, by omega⟩
        · simp only [go_sem, reduceCtorEq, reduceIte, Nat.reduceEqDiff, Nat.reduceLT, Nat.reduceLeDiff, Int.natCast_succ]
        · simp only [go_sem, reduceCtorEq, reduceIte, Nat.reduceEqDiff, Nat.reduceLT, Nat.reduceLeDiff, Int.natCast_succ, tkR]
        · by_cases hj : j = n
          · rw [hj, inW_eq, hL]; rfl
          · exact hr j (by omega)
      | false =>
        by_cases h39 : ((u.getD n 0).toNat : Int) = 39
        · (repeat' first | with_reducible (first | intro _ | refine rc ?_ | refine rl ?_ | refine rh ?_ | refine rt ?_ | refine rf ?_ | refine rs ?_ | refine And.intro ?_ ?_) | omega | simp (maxSteps := 1000000) only [go_sem, simprocAttr, ↓reduceIte, hL, h39, Int.toNat_natCast])
          refine ⟨n + 1, Ent.auto0 rfl ?_ ?_, ⟨by omega, fun j h2 => ?_⟩, by omega⟩
          · simp only [go_sem, reduceCtorEq, reduceIte, Nat.reduceEqDiff, Nat.reduceLT, Nat.reduceLeDiff, Int.natCast_succ]
          · simp only [go_sem, reduceCtorEq, reduceIte, Nat.reduceEqDiff, Nat.reduceLT, Nat.reduceLeDiff, Int.natCast_succ, tkR]
          · by_cases hj : j = n
            · rw [hj, inW_eq, hL, decide_eq_true h39]; rfl
            · exact hr j (by omega)
        · have he : n < u.length → inW (u.getD n 0) = false := fun _ => by rw [inW_eq, hL, decide_eq_false h39]; rfl
          obtain ⟨t, hT2⟩ : ∃ t, u.take n = t := ⟨_, rfl⟩
          have hT : List.take (n - 0) u = t := hT2
          have htl : t.length = n := by rw [← hT2]; simp; omega
          have hU : List.take (u.length - n) (List.drop n u) = u.drop n := List.take_of_length_le (by simp)
          (repeat' first | with_reducible (first | intro _ | refine rc ?_ | refine rl ?_ | refine rh ?_ | refine rt ?_ | refine rf ?_ | refine rs ?_ | refine And.intro ?_ ?_) | omega | simp (maxSteps := 1000000) only [go_sem, simprocAttr, ↓reduceIte, hL, h39, Int.toNat_natCast, hT])
          · have hn0 : n = 0 := by omega
            subst hn0
            have hst := u_other hul (he hkl) btw out
            have k1 := put_ok out btw (u.take 1) false (by omega) (by omega) (by simp; omega)
            rw [show putB btw (u.take 1) false = btw ++ u.take 1 from rfl, show putO out btw (u.take 1) false = out from rfl] at k1
            have hd : List.take (u.length - 1) (List.drop 1 u) = u.drop 1 := List.take_of_length_le (by simp)
            refine VcCall.io [0, 1, 2] k1 (by decide) (by simp [renL, ren, ioN]) rfl (by simp [subOk, ioN, lk, Item.ren, Item.below, ren, renL, belowL, Fv.below, tkR, renR_ok, belowR_ok]) covA3 4 (by decide) rfl (by simp [rowsB, Item.below, Fv.below, belowL, tkR, belowR_ok]) ?_
            (repeat' first | with_reducible (first | intro _ | refine rc ?_ | refine rl ?_ | refine rh ?_ | refine rt ?_ | refine rf ?_ | refine rs ?_ | refine And.intro ?_ ?_) | omega | simp (maxSteps := 1000000) only [go_sem, simprocAttr, ↓reduceIte, S.ioS, ioRows, ioN, delL, Item.ren, ren, renL, tkR, List.length_cons, List.length_nil, List.getElem?_cons_zero, List.getElem?_cons_succ, List.getElem?_nil, List.cons_append, List.nil_append, Nat.reduceAdd, Nat.sub_self, Nat.add_zero, List.filter, hd])
            refine ⟨⟨u.drop 1, btw ++ u.take 1, out⟩, Ent.auto0 rfl ?_ ?_, ⟨?_, ?_, ?_⟩, ?_⟩
            · simp only [go_sem, reduceCtorEq, reduceIte, Nat.reduceEqDiff, Nat.reduceLT, Nat.reduceLeDiff, Int.natCast_succ]
            · simp only [go_sem, reduceCtorEq, reduceIte, Nat.reduceEqDiff, Nat.reduceLT, Nat.reduceLeDiff, Int.natCast_succ, tkR]
            · simp; omega
            · rw [← hst]; exact ht
            · simp; omega
            · simp; omega
          have hn0 : 0 < n := by omega
          have hall : t.all inW = true := by rw [← hT2, ← (u_run hn hr he).1]; exact takeW_all u
          have hws := u_row hn0 hn hr he btw out
          have hwd := u_word hn0 hn hr he btw out
          rw [hT2] at hws hwd
          have hcd := cut_dec hall
          have hcs := @cut_some t
          have hcp := @cut_parts t (preN t) (preN t + (midQ t).length) rfl rfl
          have hrow := isWd_row hall
          have hple := preN_le t
          have hrl := dropR_len t
          have hprp := preN_eq t
          have hql := takeWhile_len_le qu t
          rw [show t.dropWhile qu = dropQ t from rfl] at hql
          have ha : (t.length : Int) - ((dropQ t).length : Int) = (preN t : Int) := by omega
          refine VcCall.fr (FnFr.of_ok (trimLeft_ok t (by omega)) rfl rfl) (by simp only [noIdR_ok, argOkL, argOk, allOk, argOkN, List.drop_zero, lk, reduceIte, reduceCtorEq, Nat.reduceEqDiff, Option.some.injEq, Item.row.injEq, Item.box.injEq, AV.ro.injEq, exists_eq_left, exists_and_left, exists_eq_left', exists_eq_right, and_assoc, and_true, true_and, List.cons.injEq, exists_eq', exists_eq]) 0 rfl (by simp [rowsB]) ?_
          (repeat' first | with_reducible (first | intro _ | refine rc ?_ | refine rl ?_ | refine rh ?_ | refine rt ?_ | refine rf ?_ | refine rs ?_ | refine And.intro ?_ ?_) | omega | simp (maxSteps := 1000000) only [go_sem, simprocAttr, ↓reduceIte, ha])
          refine VcCall.fr (FnFr.of_ok (trimRight_ok t (by omega)) rfl rfl) (by simp only [noIdR_ok, argOkL, argOk, allOk, argOkN, List.drop_zero, lk, reduceIte, reduceCtorEq, Nat.reduceEqDiff, Option.some.injEq, Item.row.injEq, Item.box.injEq, AV.ro.injEq, exists_eq_left, exists_and_left, exists_eq_left', exists_eq_right, and_assoc, and_true, true_and, List.cons.injEq, exists_eq', exists_eq]) 0 rfl (by simp [rowsB]) ?_
          (repeat' first | with_reducible (first | intro _ | refine rc ?_ | refine rl ?_ | refine rh ?_ | refine rt ?_ | refine rf ?_ | refine rs ?_ | refine And.intro ?_ ?_) | omega | simp (maxSteps := 1000000) only [go_sem, simprocAttr, ↓reduceIte, ha])
          · have hw : isWd (midQ t) = false := hcd.1 (by omega)
            have k1 := put_ok out btw t false (by omega) (by omega) (by omega)
            rw [show putB btw t false = btw ++ t from rfl, show putO out btw t false = out from rfl] at k1
            refine VcCall.io [0, 1, 2] k1 (by decide) (by simp [renL, ren, ioN]) rfl (by simp [subOk, ioN, lk, Item.ren, Item.below, ren, renL, belowL, Fv.below, tkR, renR_ok, belowR_ok]) covA3 4 (by decide) rfl (by simp [rowsB, Item.below, Fv.below, belowL, tkR, belowR_ok]) ?_
            (repeat' first | with_reducible (first | intro _ | refine rc ?_ | refine rl ?_ | refine rh ?_ | refine rt ?_ | refine rf ?_ | refine rs ?_ | refine And.intro ?_ ?_) | omega | simp (maxSteps := 1000000) only [go_sem, simprocAttr, ↓reduceIte, S.ioS, ioRows, ioN, delL, Item.ren, ren, renL, tkR, List.length_cons, List.length_nil, List.getElem?_cons_zero, List.getElem?_cons_succ, List.getElem?_nil, List.cons_append, List.nil_append, Nat.reduceAdd, Nat.sub_self, Nat.add_zero, List.filter, hU, Int.toNat_natCast])
            refine ⟨⟨u.drop n, btw ++ t, out⟩, Ent.auto0 rfl ?_ ?_, ⟨?_, ?_, ?_⟩, ?_⟩
            · simp only [go_sem, reduceCtorEq, reduceIte, Nat.reduceEqDiff, Nat.reduceLT, Nat.reduceLeDiff, Int.natCast_succ]
            · simp only [go_sem, reduceCtorEq, reduceIte, Nat.reduceEqDiff, Nat.reduceLT, Nat.reduceLeDiff, Int.natCast_succ, tkR]
            · simp; omega
            · rw [← hws hw]; exact ht
            · simp; omega
            · simp; omega
          · have hw : isWd (midQ t) = true := by
              cases h : isWd (midQ t) with
              | true => rfl
              | false => have := hcd.2 h; omega
            obtain ⟨hne, h40⟩ := hrow.1 hw
            have hml : 0 < (midQ t).length := List.length_pos_iff.2 hne
            obtain ⟨f1, f2, f3⟩ := hcp
            have hb := hcs hne
            have hst := hwd hw
            have h3 := congrArg List.length (three t)
            simp only [List.length_append] at h3
            rw [← hb] at f2 f3
            have f3' : List.take (t.length - (dropR t).length) (List.drop (dropR t).length t) = postQ (dropQ t) := by rw [List.take_of_length_le (by simp)]; exact f3
            generalize midQ t = m at *
            generalize preQ t = x at *
            generalize postQ (dropQ t) = z at *
            generalize preN t = p at *
            generalize (dropR t).length = q at *
            have k1 := put_ok out btw x false (by omega) (by omega) (by omega)
            rw [show putB btw x false = btw ++ x from rfl, show putO out btw x false = out from rfl] at k1
            have k2 := put_ok out (btw ++ x) m true (by omega) (by simp; omega) (by omega)
            rw [show putB (btw ++ x) m true = [] from rfl, show putO out (btw ++ x) m true = flush out (btw ++ x) ++ [(m, true)] from rfl] at k2
            have hfl := addT_len out (btw ++ x) false
            rw [show addT out (btw ++ x) false = flush out (btw ++ x) from rfl] at hfl
            have hol2 : (flush out (btw ++ x) ++ [(m, true)]).length ≤ out.length + 2 := by simp; omega
            generalize flush out (btw ++ x) ++ [(m, true)] = out2 at *
            have k3 := put_ok out2 [] z false (by omega) (by simp) (by omega)
            rw [show putB [] z false = z from rfl, show putO out2 [] z false = out2 from rfl] at k3
            rw [show List.take (p - 0) t = x from f1]
            refine VcCall.io [0, 1, 2] k1 (by decide) (by simp [renL, ren, ioN]) rfl (by simp [subOk, ioN, lk, Item.ren, Item.below, ren, renL, belowL, Fv.below, tkR, renR_ok, belowR_ok]) covA3 4 (by decide) rfl (by simp [rowsB, Item.below, Fv.below, belowL, tkR, belowR_ok]) ?_
            (repeat' first | with_reducible (first | intro _ | refine rc ?_ | refine rl ?_ | refine rh ?_ | refine rt ?_ | refine rf ?_ | refine rs ?_ | refine And.intro ?_ ?_) | omega | simp (maxSteps := 1000000) only [go_sem, simprocAttr, ↓reduceIte, S.ioS, ioRows, ioN, delL, Item.ren, ren, renL, tkR, List.length_cons, List.length_nil, List.getElem?_cons_zero, List.getElem?_cons_succ, List.getElem?_nil, List.cons_append, List.nil_append, Nat.reduceAdd, Nat.sub_self, Nat.add_zero, List.filter, f2, Int.toNat_natCast])
            refine VcCall.io [0, 1, 3] k2 (by decide) (by simp [renL, ren, ioN]) rfl (by simp [subOk, ioN, lk, Item.ren, Item.below, ren, renL, belowL, Fv.below, tkR, renR_ok, belowR_ok]) covA3 4 (by decide) rfl (by simp [rowsB, Item.below, Fv.below, belowL, tkR, belowR_ok]) ?_
            (repeat' first | with_reducible (first | intro _ | refine rc ?_ | refine rl ?_ | refine rh ?_ | refine rt ?_ | refine rf ?_ | refine rs ?_ | refine And.intro ?_ ?_) | omega | simp (maxSteps := 1000000) only [go_sem, simprocAttr, ↓reduceIte, S.ioS, ioRows, ioN, delL, Item.ren, ren, renL, tkR, List.length_cons, List.length_nil, List.getElem?_cons_zero, List.getElem?_cons_succ, List.getElem?_nil, List.cons_append, List.nil_append, Nat.reduceAdd, Nat.sub_self, Nat.add_zero, List.filter, f3', Int.toNat_natCast])
            refine VcCall.io [0, 1, 4] k3 (by decide) (by simp [renL, ren, ioN]) rfl (by simp [subOk, ioN, lk, Item.ren, Item.below, ren, renL, belowL, Fv.below, tkR, renR_ok, belowR_ok]) covA3 4 (by decide) rfl (by simp [rowsB, Item.below, Fv.below, belowL, tkR, belowR_ok]) ?_
            (repeat' first | with_reducible (first | intro _ | refine rc ?_ | refine rl ?_ | refine rh ?_ | refine rt ?_ | refine rf ?_ | refine rs ?_ | refine And.intro ?_ ?_) | omega | simp (maxSteps := 1000000) only [go_sem, simprocAttr, ↓reduceIte, S.ioS, ioRows, ioN, delL, Item.ren, ren, renL, tkR, List.length_cons, List.length_nil, List.getElem?_cons_zero, List.getElem?_cons_succ, List.getElem?_nil, List.cons_append, List.nil_append, Nat.reduceAdd, Nat.sub_self, Nat.add_zero, List.filter, hU, Int.toNat_natCast])
            refine ⟨⟨u.drop n, z, out2⟩, Ent.auto0 rfl ?_ ?_, ⟨?_, ?_, ?_⟩, ?_⟩
            · simp only [go_sem, reduceCtorEq, reduceIte, Nat.reduceEqDiff, Nat.reduceLT, Nat.reduceLeDiff, Int.natCast_succ]
            · simp only [go_sem, reduceCtorEq, reduceIte, Nat.reduceEqDiff, Nat.reduceLT, Nat.reduceLeDiff, Int.natCast_succ, tkR]
            · simp; omega
            · rw [← hst]; exact ht
            · simp; omega
            · simp; omega
    · have hkl2 : ¬ (n : Int) < u.length := by omega
      have he : n < u.length → inW (u.getD n 0) = false := fun h => absurd h hkl
      obtain ⟨t, hT2⟩ : ∃ t, u.take n = t := ⟨_, rfl⟩
      have hT : List.take (n - 0) u = t := hT2
      have htl : t.length = n := by rw [← hT2]; simp; omega
      have hU : List.take (u.length - n) (List.drop n u) = u.drop n := List.take_of_length_le (by simp)
      (repeat' first | with_reducible (first | intro _ | refine rc ?_ | refine rl ?_ | refine rh ?_ | refine rt ?_ | refine rf ?_ | refine rs ?_ | refine And.intro ?_ ?_) | omega | simp (maxSteps := 1000000) only [go_sem, simprocAttr, ↓reduceIte, hkl2, Int.toNat_natCast, hT])
      have hn0 : 0 < n := by omega
      have hall : t.all inW = true := by rw [← hT2, ← (u_run hn hr he).1]; exact takeW_all u
      have hws := u_row hn0 hn hr he btw out
      have hwd := u_word hn0 hn hr he btw out
      rw [hT2] at hws hwd
      have hcd := cut_dec hall
      have hcs := @cut_some t
      have hcp := @cut_parts t (preN t) (preN t + (midQ t).length) rfl rfl
      have hrow := isWd_row hall
      have hple := preN_le t
      have hrl := dropR_len t
      have hprp := preN_eq t
      have hql := takeWhile_len_le qu t
      rw [show t.dropWhile qu = dropQ t from rfl] at hql
      have ha : (t.length : Int) - ((dropQ t).length : Int) = (preN t : Int) := by omega
      refine VcCall.fr (FnFr.of_ok (trimLeft_ok t (by omega)) rfl rfl) (by simp only [noIdR_ok, argOkL, argOk, allOk, argOkN, List.drop_zero, lk, reduceIte, reduceCtorEq, Nat.reduceEqDiff, Option.some.injEq, Item.row.injEq, Item.box.injEq, AV.ro.injEq, exists_eq_left, exists_and_left, exists_eq_left', exists_eq_right, and_assoc, and_true, true_and, List.cons.injEq, exists_eq', exists_eq]) 0 rfl (by simp [rowsB]) ?_
      (repeat' first | with_reducible (first | intro _ | refine rc ?_ | refine rl ?_ | refine rh ?_ | refine rt ?_ | refine rf ?_ | refine rs ?_ | refine And.intro ?_ ?_) | omega | simp (maxSteps := 1000000) only [go_sem, simprocAttr, ↓reduceIte, ha])
      refine VcCall.fr (FnFr.of_ok (trimRight_ok t (by omega)) rfl rfl) (by simp only [noIdR_ok, argOkL, argOk, allOk, argOkN, List.drop_zero, lk, reduceIte, reduceCtorEq, Nat.reduceEqDiff, Option.some.injEq, Item.row.injEq, Item.box.injEq, AV.ro.injEq, exists_eq_left, exists_and_left, exists_eq_left', exists_eq_right, and_assoc, and_true, true_and, List.cons.injEq, exists_eq', exists_eq]) 0 rfl (by simp [rowsB]) ?_
      (repeat' first | with_reducible (first | intro _ | refine rc ?_ | refine rl ?_ | refine rh ?_ | refine rt ?_ | refine rf ?_ | refine rs ?_ | refine And.intro ?_ ?_) | omega | simp (maxSteps := 1000000) only [go_sem, simprocAttr, ↓reduceIte, ha])
      · have hw : isWd (midQ t) = false := hcd.1 (by omega)
        have k1 := put_ok out btw t false (by omega) (by omega) (by omega)
        rw [show putB btw t false = btw ++ t from rfl, show putO out btw t false = out from rfl] at k1
        refine VcCall.io [0, 1, 2] k1 (by decide) (by simp [renL, ren, ioN]) rfl (by simp [subOk, ioN, lk, Item.ren, Item.below, ren, renL, belowL, Fv.below, tkR, renR_ok, belowR_ok]) covA3 4 (by decide) rfl (by simp [rowsB, Item.below, Fv.below, belowL, tkR, belowR_ok]) ?_
        (repeat' first | with_reducible (first | intro _ | refine rc ?_ | refine rl ?_ | refine rh ?_ | refine rt ?_ | refine rf ?_ | refine rs ?_ | refine And.intro ?_ ?_) | omega | simp (maxSteps := 1000000) only [go_sem, simprocAttr, ↓reduceIte, S.ioS, ioRows, ioN, delL, Item.ren, ren, renL, tkR, List.length_cons, List.length_nil, List.getElem?_cons_zero, List.getElem?_cons_succ, List.getElem?_nil, List.cons_append, List.nil_append, Nat.reduceAdd, Nat.sub_self, Nat.add_zero, List.filter, hU, Int.toNat_natCast])
        refine ⟨⟨u.drop n, btw ++ t, out⟩, Ent.auto0 rfl ?_ ?_, ⟨?_, ?_, ?_⟩, ?_⟩
        · simp only [go_sem, reduceCtorEq, reduceIte, Nat.reduceEqDiff, Nat.reduceLT, Nat.reduceLeDiff, Int.natCast_succ]
        · simp only [go_sem, reduceCtorEq, reduceIte, Nat.reduceEqDiff, Nat.reduceLT, Nat.reduceLeDiff, Int.natCast_succ, tkR]
        · simp; omega
        · rw [← hws hw]; exact ht
        · simp; omega
        · simp; omega
      · have hw : isWd (midQ t) = true := by
          cases h : isWd (midQ t) with
          | true => rfl
          | false => have := hcd.2 h; omega
        obtain ⟨hne, h40⟩ := hrow.1 hw
        have hml : 0 < (midQ t).length := List.length_pos_iff.2 hne
        obtain ⟨f1, f2, f3⟩ := hcp
        have hb := hcs hne
        have hst := hwd hw
        have h3 := congrArg List.length (three t)
        simp only [List.length_append] at h3
        rw [← hb] at f2 f3
        have f3' : List.take (t.length - (dropR t).length) (List.drop (dropR t).length t) = postQ (dropQ t) := by rw [List.take_of_length_le (by simp)]; exact f3
        generalize midQ t = m at *
        generalize preQ t = x at *
        generalize postQ (dropQ t) = z at *
        generalize preN t = p at *
        generalize (dropR t).length = q at *
        have k1 := put_ok out btw x false (by omega) (by omega) (by omega)
        rw [show putB btw x false = btw ++ x from rfl, show putO out btw x false = out from rfl] at k1
        have k2 := put_ok out (btw ++ x) m true (by omega) (by simp; omega) (by omega)
        rw [show putB (btw ++ x) m true = [] from rfl, show putO out (btw ++ x) m true = flush out (btw ++ x) ++ [(m, true)] from rfl] at k2
        have hfl := addT_len out (btw ++ x) false
        rw [show addT out (btw ++ x) false = flush out (btw ++ x) from rfl] at hfl
        have hol2 : (flush out (btw ++ x) ++ [(m, true)]).length ≤ out.length + 2 := by simp; omega
        generalize flush out (btw ++ x) ++ [(m, true)] = out2 at *
        have k3 := put_ok out2 [] z false (by omega) (by simp) (by omega)
        rw [show putB [] z false = z from rfl, show putO out2 [] z false = out2 from rfl] at k3
        rw [show List.take (p - 0) t = x from f1]
        refine VcCall.io [0, 1, 2] k1 (by decide) (by simp [renL, ren, ioN]) rfl (by simp [subOk, ioN, lk, Item.ren, Item.below, ren, renL, belowL, Fv.below, tkR, renR_ok, belowR_ok]) covA3 4 (by decide) rfl (by simp [rowsB, Item.below, Fv.below, belowL, tkR, belowR_ok]) ?_
        (repeat' first | with_reducible (first | intro _ | refine rc ?_ | refine rl ?_ | refine rh ?_ | refine rt ?_ | refine rf ?_ | refine rs ?_ | refine And.intro ?_ ?_) | omega | simp (maxSteps := 1000000) only [go_sem, simprocAttr, ↓reduceIte, S.ioS, ioRows, ioN, delL, Item.ren, ren, renL, tkR, List.length_cons, List.length_nil, List.getElem?_cons_zero, List.getElem?_cons_succ, List.getElem?_nil, List.cons_append, List.nil_append, Nat.reduceAdd, Nat.sub_self, Nat.add_zero, List.filter, f2, Int.toNat_natCast])
        refine VcCall.io [0, 1, 3] k2 (by decide) (by simp [renL, ren, ioN]) rfl (by simp [subOk, ioN, lk, Item.ren, Item.below, ren, renL, belowL, Fv.below, tkR, renR_ok, belowR_ok]) covA3 4 (by decide) rfl (by simp [rowsB, Item.below, Fv.below, belowL, tkR, belowR_ok]) ?_
        (repeat' first | with_reducible (first | intro _ | refine rc ?_ | refine rl ?_ | refine rh ?_ | refine rt ?_ | refine rf ?_ | refine rs ?_ | refine And.intro ?_ ?_) | omega | simp (maxSteps := 1000000) only [go_sem, simprocAttr, ↓reduceIte, S.ioS, ioRows, ioN, delL, Item.ren, ren, renL, tkR, List.length_cons, List.length_nil, List.getElem?_cons_zero, List.getElem?_cons_succ, List.getElem?_nil, List.cons_append, List.nil_append, Nat.reduceAdd, Nat.sub_self, Nat.add_zero, List.filter, f3', Int.toNat_natCast])
        refine VcCall.io [0, 1, 4] k3 (by decide) (by simp [renL, ren, ioN]) rfl (by simp [subOk, ioN, lk, Item.ren, Item.below, ren, renL, belowL, Fv.below, tkR, renR_ok, belowR_ok]) covA3 4 (by decide) rfl (by simp [rowsB, Item.below, Fv.below, belowL, tkR, belowR_ok]) ?_
        (repeat' first | with_reducible (first | intro _ | refine rc ?_ | refine rl ?_ | refine rh ?_ | refine rt ?_ | refine rf ?_ | refine rs ?_ | refine And.intro ?_ ?_) | omega | simp (maxSteps := 1000000) only [go_sem, simprocAttr, ↓reduceIte, S.ioS, ioRows, ioN, delL, Item.ren, ren, renL, tkR, List.length_cons, List.length_nil, List.getElem?_cons_zero, List.getElem?_cons_succ, List.getElem?_nil, List.cons_append, List.nil_append, Nat.reduceAdd, Nat.sub_self, Nat.add_zero, List.filter, hU, Int.toNat_natCast])
        refine ⟨⟨u.drop n, z, out2⟩, Ent.auto0 rfl ?_ ?_, ⟨?_, ?_, ?_⟩, ?_⟩
        · simp only [go_sem, reduceCtorEq, reduceIte, Nat.reduceEqDiff, Nat.reduceLT, Nat.reduceLeDiff, Int.natCast_succ]
        · simp only [go_sem, reduceCtorEq, reduceIte, Nat.reduceEqDiff, Nat.reduceLT, Nat.reduceLeDiff, Int.natCast_succ, tkR]
        · simp; omega
        · rw [← hst]; exact ht
        · simp; omega
        · simp; omega
theorem refTokens_ok (s : List UInt8) (hs : s.length ≤ 1048576) : FnOk Tryz.prog 65 [.str s] (.own 0) [(0, .row 67 (tkR (toks s [] [])))] := refTokensB_ok s (by omega)
end Go.Fv.Y

/- Lines put together: the small functions of the reference. -/
namespace Go.Fv.Y
open Go Go.Proofs
set_option linter.unusedSimpArgs false
set_option linter.unusedVariables false
set_option linter.unnecessarySimpa false
set_option maxRecDepth 8000

end Go.Fv.Y

namespace Go.Fv.Y
open Go Go.Proofs
set_option linter.unusedSimpArgs false
set_option linter.unusedVariables false
set_option maxRecDepth 8000
end Go.Fv.Y

/- JoinLines of the reference. -/
namespace Go.Fv.Y
open Go Go.Proofs
set_option linter.unusedSimpArgs false
set_option linter.unusedVariables false
set_option linter.unnecessarySimpa false
set_option maxRecDepth 8000

instance capsNil : CapsOk [] := ⟨rfl⟩
end Go.Fv.Y

/- Words that are corrected: the closure of Correct, and the reference. -/
namespace Go.Fv.Y
open Go Go.Proofs
set_option linter.unusedSimpArgs false
set_option linter.unusedVariables false
set_option linter.unnecessarySimpa false
set_option maxRecDepth 8000

theorem smallL_len (w : Bytes) : (smallL w).length = w.length := by unfold smallL; simp
theorem nearL_bd {D : List Wd} (hg : GoodD D) {sw : List Sw} (hsw : GoodSw sw) {w : Bytes} (hw : w.length ≤ 1000) {most : Int} : gsBd (nearL D sw w most) := fun x hx => by
  unfold nearL at hx
  exact gs_ok hg hsw hw (fun x hx => hx) x ((sortG_perm _).mem_iff.1 hx)
set_option maxHeartbeats 8000000 in
theorem corr1_ok (D : List Wd) (hg : GoodD D) (hl : D.length < 40) (sw : List Sw) (hsw : GoodSw sw) (hswl : sw.length ≤ 4000) (most : Int) (w : Bytes) (hw : isWd w = true) :
    FnOk Tryz.prog 59 [.str w, .cell [.cell [.mp (dKs D) (dVs D), .ro (.strs (wsD D))]], .cell [.mp (kgKs (grp [] sw)) (kgVs (grp [] sw))], .cell [.int .i64 most]] (.str (corrW D sw most w)) [] := by
  have hwb := isWd_bd hw
  have kk := knows_ok D (wsD D) w
  have kn := near_ok D hg hl sw hsw hswl w (by omega) most
  have kb := best_ok (nearL D sw w most) (nearL_bd hg hsw (by omega)) _ rfl _ rfl
  have ks := smallW_ok w
  have hsl := smallL_len w
  have kn2 := near_ok D hg hl sw hsw hswl (smallL w) (by omega) most
  have kb2 := best_ok (nearL D sw (smallL w) most) (nearL_bd hg hsw (by omega)) _ rfl _ rfl
  have hbw : ∀ g, bestG (nearL D sw (smallL w) most) = some g → FnOk Tryz.prog 62 [.str g.t, .str w] (.str (recL g.t w)) [] := fun g h => by
    have h1 := isWd_bd (near_word hg h)
    exact recased_ok g.t w (List.length_pos_iff.2 h1.1) (List.length_pos_iff.2 hwb.1) (by omega) (by omega)
  unfold corrW
  generalize nearL D sw w most = G at *
  generalize nearL D sw (smallL w) most = G2 at *
  generalize wsD D = ws at *
  refine FnOk.of_vc Tryz.func59 rfl (by decide) (by simp [Tryz.f59]) [.tmp 5] rfl fun w0 T0 _ => ?_
  simp only [Tryz.f59, argEnv]
  by_cases hh : hasW D w = true
  · rw [if_pos hh]
    rw [hh] at kk
    (repeat' first | with_reducible (first | intro _ | refine rc ?_ | refine rl ?_ | refine rh ?_ | refine rt ?_ | refine rf ?_ | refine rs ?_ | refine And.intro ?_ ?_) | omega | simp (maxSteps := 1000000) only [go_sem, simprocAttr, ↓reduceIte])
    refine VcCall.k (kk) ?_
    (repeat' first | with_reducible (first | intro _ | refine rc ?_ | refine rl ?_ | refine rh ?_ | refine rt ?_ | refine rf ?_ | refine rs ?_ | refine And.intro ?_ ?_) | omega | simp (maxSteps := 1000000) only [go_sem, simprocAttr, ↓reduceIte])
    refine Ret.auto 0 ?_ rfl ?_ <;> simp only [go_sem, reduceCtorEq, reduceIte, Nat.reduceEqDiff, Nat.reduceLT, Nat.reduceLeDiff, Int.natCast_succ, Post]
  rw [if_neg hh]
  rw [Bool.not_eq_true] at hh
  rw [hh] at kk
  (repeat' first | with_reducible (first | intro _ | refine rc ?_ | refine rl ?_ | refine rh ?_ | refine rt ?_ | refine rf ?_ | refine rs ?_ | refine And.intro ?_ ?_) | omega | simp (maxSteps := 1000000) only [go_sem, simprocAttr, ↓reduceIte])
  refine VcCall.k (kk) ?_
  (repeat' first | with_reducible (first | intro _ | refine rc ?_ | refine rl ?_ | refine rh ?_ | refine rt ?_ | refine rf ?_ | refine rs ?_ | refine And.intro ?_ ?_) | omega | simp (maxSteps := 1000000) only [go_sem, simprocAttr, ↓reduceIte])
  refine VcCall.ro (.ro (gsR G)) (FnFr.of_ok kn rfl (by simp [noRoRows, noRoItem, noRoRow, noRoL, noRo, gsR, Gs.av])) (by simp only [noIdR_ok, argOkL, argOk, allOk, argOkN, List.drop_zero, lk, reduceIte, reduceCtorEq, Nat.reduceEqDiff, Option.some.injEq, Item.row.injEq, Item.box.injEq, AV.ro.injEq, exists_eq_left, exists_and_left, exists_eq_left', exists_eq_right, and_assoc, and_true, true_and, List.cons.injEq, exists_eq', exists_eq]) (by simp [outOk, argOkL, allOk, argOk, argOkN, lk, noIdR_ok, gsR]) rfl ?_
  (repeat' first | with_reducible (first | intro _ | refine rc ?_ | refine rl ?_ | refine rh ?_ | refine rt ?_ | refine rf ?_ | refine rs ?_ | refine And.intro ?_ ?_) | omega | simp (maxSteps := 1000000) only [go_sem, simprocAttr, ↓reduceIte])
  refine VcCall.k (kb) ?_
  cases hG : bestG G with
  | some g =>
    rw [hG] at kb
    (repeat' first | with_reducible (first | intro _ | refine rc ?_ | refine rl ?_ | refine rh ?_ | refine rt ?_ | refine rf ?_ | refine rs ?_ | refine And.intro ?_ ?_) | omega | simp (maxSteps := 1000000) only [go_sem, simprocAttr, ↓reduceIte, gOr, Option.isSome])
    refine Ret.auto 0 ?_ rfl ?_ <;> simp only [go_sem, reduceCtorEq, reduceIte, Nat.reduceEqDiff, Nat.reduceLT, Nat.reduceLeDiff, Int.natCast_succ, Post]
  | none =>
    rw [hG] at kb
    (repeat' first | with_reducible (first | intro _ | refine rc ?_ | refine rl ?_ | refine rh ?_ | refine rt ?_ | refine rf ?_ | refine rs ?_ | refine And.intro ?_ ?_) | omega | simp (maxSteps := 1000000) only [go_sem, simprocAttr, ↓reduceIte, gOr, Option.isSome, Gs.zero])
    refine VcCall.k (ks) ?_
    by_cases hs : smallL w = w
    · rw [if_pos hs]
      (repeat' first | with_reducible (first | intro _ | refine rc ?_ | refine rl ?_ | refine rh ?_ | refine rt ?_ | refine rf ?_ | refine rs ?_ | refine And.intro ?_ ?_) | omega | simp (maxSteps := 1000000) only [go_sem, simprocAttr, ↓reduceIte, hs])
      refine Ret.auto 0 ?_ rfl ?_ <;> simp only [go_sem, reduceCtorEq, reduceIte, Nat.reduceEqDiff, Nat.reduceLT, Nat.reduceLeDiff, Int.natCast_succ, Post]
    · rw [if_neg hs]
      generalize smallL w = lw at *
      (repeat' first | with_reducible (first | intro _ | refine rc ?_ | refine rl ?_ | refine rh ?_ | refine rt ?_ | refine rf ?_ | refine rs ?_ | refine And.intro ?_ ?_) | omega | simp (maxSteps := 1000000) only [go_sem, simprocAttr, ↓reduceIte, hs])
      refine VcCall.ro (.ro (gsR G2)) (FnFr.of_ok kn2 rfl (by simp [noRoRows, noRoItem, noRoRow, noRoL, noRo, gsR, Gs.av])) (by simp only [noIdR_ok, argOkL, argOk, allOk, argOkN, List.drop_zero, lk, reduceIte, reduceCtorEq, Nat.reduceEqDiff, Option.some.injEq, Item.row.injEq, Item.box.injEq, AV.ro.injEq, exists_eq_left, exists_and_left, exists_eq_left', exists_eq_right, and_assoc, and_true, true_and, List.cons.injEq, exists_eq', exists_eq]) (by simp [outOk, argOkL, allOk, argOk, argOkN, lk, noIdR_ok, gsR]) rfl ?_
      (repeat' first | with_reducible (first | intro _ | refine rc ?_ | refine rl ?_ | refine rh ?_ | refine rt ?_ | refine rf ?_ | refine rs ?_ | refine And.intro ?_ ?_) | omega | simp (maxSteps := 1000000) only [go_sem, simprocAttr, ↓reduceIte])
      refine VcCall.k (kb2) ?_
      cases hG2 : bestG G2 with
      | some g =>
        rw [hG2] at kb2
        have kr := hbw g hG2
        (repeat' first | with_reducible (first | intro _ | refine rc ?_ | refine rl ?_ | refine rh ?_ | refine rt ?_ | refine rf ?_ | refine rs ?_ | refine And.intro ?_ ?_) | omega | simp (maxSteps := 1000000) only [go_sem, simprocAttr, ↓reduceIte, gOr, Option.isSome])
        refine VcCall.k (kr) ?_
        (repeat' first | with_reducible (first | intro _ | refine rc ?_ | refine rl ?_ | refine rh ?_ | refine rt ?_ | refine rf ?_ | refine rs ?_ | refine And.intro ?_ ?_) | omega | simp (maxSteps := 1000000) only [go_sem, simprocAttr, ↓reduceIte])
        refine Ret.auto 0 ?_ rfl ?_ <;> simp only [go_sem, reduceCtorEq, reduceIte, Nat.reduceEqDiff, Nat.reduceLT, Nat.reduceLeDiff, Int.natCast_succ, Post]
      | none =>
        rw [hG2] at kb2
        (repeat' first | with_reducible (first | intro _ | refine rc ?_ | refine rl ?_ | refine rh ?_ | refine rt ?_ | refine rf ?_ | refine rs ?_ | refine And.intro ?_ ?_) | omega | simp (maxSteps := 1000000) only [go_sem, simprocAttr, ↓reduceIte, gOr, Option.isSome, Gs.zero])
        refine Ret.auto 0 ?_ rfl ?_ <;> simp only [go_sem, reduceCtorEq, reduceIte, Nat.reduceEqDiff, Nat.reduceLT, Nat.reduceLeDiff, Int.natCast_succ, Post]
end Go.Fv.Y

/- Words that are corrected: the reference. -/
namespace Go.Fv.Y
open Go Go.Proofs
set_option linter.unusedSimpArgs false
set_option linter.unusedVariables false
set_option linter.unnecessarySimpa false
set_option maxRecDepth 8000

theorem bestOut_near {D : List Wd} {l : List Mx} {w : Bytes} {most : Int} (hm : mixErr l = 0) (h1 : ¬ (most < 0 ∨ 10000 < most)) (h2 : w.length ≤ 200) : bestOut (nearOut D l w most) (nearErr l w most) = match bestG (nearL D (swL l) w most) with | none => ⟨[], 0, 10⟩ | some g => ⟨g.t, g.d, 0⟩ := by
  have he : nearErr l w most = 0 := by unfold nearErr; rw [if_neg h1, if_neg (by omega)]; exact hm
  have ho : nearOut D l w most = nearL D (swL l) w most := by unfold nearOut; rw [if_pos he]
  rw [ho, he]
  unfold bestOut
  rw [if_pos rfl]
  cases bestG (nearL D (swL l) w most) <;> rfl
set_option maxHeartbeats 16000000 in
theorem refCorr_ok (D : List Wd) (hg : GoodD D) (hl : D.length < 40) (l : List Mx) (hm : mixErr l = 0) (most : Int) (h1 : ¬ (most < 0 ∨ 10000 < most)) (w : Bytes) (hw : isWd w = true) :
    FnOk Tryz.prog 66 [.cell [.ro (wdR (sortW D))], .str w, .ro (mxs l), .int .i64 most] (.str (corrW D (swL l) most w)) [] := by
  have hwb := isWd_bd hw
  have k1 := refCountD_ok (sortW D) w
  have k2 := refSmall_ok w
  have k3 := refCountD_ok (sortW D) (smallL w)
  rw [cntD_perm (sortW_perm D) hg.nd] at k1 k3
  have hsl := smallL_len w
  have b1 := refBest_ok D hg hl l w most _ rfl
  rw [bestOut_near hm h1 (by omega)] at b1
  have b2 := refBest_ok D hg hl l (smallL w) most _ rfl
  rw [bestOut_near hm h1 (by omega)] at b2
  have kg := refGreat_ok w
  have hgs := greatL_same w
  have hbw : ∀ g, bestG (nearL D (swL l) (smallL w) most) = some g → 0 < g.t.length ∧ g.t.length ≤ 40 := fun g h => by
    have h1 := isWd_bd (near_word hg h)
    exact ⟨List.length_pos_iff.2 h1.1, h1.2⟩
  unfold corrW
  unfold hasW
  generalize nearL D (swL l) w most = G at *
  generalize nearL D (swL l) (smallL w) most = G2 at *
  generalize sortW D = RW at *
  generalize cntD D w = n1 at *
  generalize cntD D (smallL w) = n2 at *
  refine FnOk.of_vc Tryz.func66 rfl (by decide) (by simp [Tryz.f66]) [.tmp 8] rfl fun w0 T0 _ => ?_
  simp only [Tryz.f66, argEnv]
  by_cases c1 : 0 < n1
  · rw [decide_eq_true c1, Bool.true_or, if_pos rfl]
    (repeat' first | with_reducible (first | intro _ | refine rc ?_ | refine rl ?_ | refine rh ?_ | refine rt ?_ | refine rf ?_ | refine rs ?_ | refine And.intro ?_ ?_) | omega | simp (maxSteps := 1000000) only [go_sem, simprocAttr, ↓reduceIte])
    refine VcCall.k (k1) ?_
    (repeat' first | with_reducible (first | intro _ | refine rc ?_ | refine rl ?_ | refine rh ?_ | refine rt ?_ | refine rf ?_ | refine rs ?_ | refine And.intro ?_ ?_) | omega | simp (maxSteps := 1000000) only [go_sem, simprocAttr, ↓reduceIte, c1])
    refine Ret.auto 0 ?_ rfl ?_ <;> simp only [go_sem, reduceCtorEq, reduceIte, Nat.reduceEqDiff, Nat.reduceLT, Nat.reduceLeDiff, Int.natCast_succ, Post]
  rw [decide_eq_false c1, Bool.false_or]
  by_cases c2 : 0 < n2
  · rw [decide_eq_true c2, if_pos rfl]
    (repeat' first | with_reducible (first | intro _ | refine rc ?_ | refine rl ?_ | refine rh ?_ | refine rt ?_ | refine rf ?_ | refine rs ?_ | refine And.intro ?_ ?_) | omega | simp (maxSteps := 1000000) only [go_sem, simprocAttr, ↓reduceIte])
    refine VcCall.k (k1) ?_
    (repeat' first | with_reducible (first | intro _ | refine rc ?_ | refine rl ?_ | refine rh ?_ | refine rt ?_ | refine rf ?_ | refine rs ?_ | refine And.intro ?_ ?_) | omega | simp (maxSteps := 1000000) only [go_sem, simprocAttr, ↓reduceIte, c1])
    refine VcCall.k (k2) ?_
    (repeat' first | with_reducible (first | intro _ | refine rc ?_ | refine rl ?_ | refine rh ?_ | refine rt ?_ | refine rf ?_ | refine rs ?_ | refine And.intro ?_ ?_) | omega | simp (maxSteps := 1000000) only [go_sem, simprocAttr, ↓reduceIte, c1])
    refine VcCall.k (k3) ?_
    (repeat' first | with_reducible (first | intro _ | refine rc ?_ | refine rl ?_ | refine rh ?_ | refine rt ?_ | refine rf ?_ | refine rs ?_ | refine And.intro ?_ ?_) | omega | simp (maxSteps := 1000000) only [go_sem, simprocAttr, ↓reduceIte, c1, c2])
    refine Ret.auto 0 ?_ rfl ?_ <;> simp only [go_sem, reduceCtorEq, reduceIte, Nat.reduceEqDiff, Nat.reduceLT, Nat.reduceLeDiff, Int.natCast_succ, Post]
  rw [decide_eq_false c2, if_neg (by decide)]
  (repeat' first | with_reducible (first | intro _ | refine rc ?_ | refine rl ?_ | refine rh ?_ | refine rt ?_ | refine rf ?_ | refine rs ?_ | refine And.intro ?_ ?_) | omega | simp (maxSteps := 1000000) only [go_sem, simprocAttr, ↓reduceIte])
  refine VcCall.k (k1) ?_
  (repeat' first | with_reducible (first | intro _ | refine rc ?_ | refine rl ?_ | refine rh ?_ | refine rt ?_ | refine rf ?_ | refine rs ?_ | refine And.intro ?_ ?_) | omega | simp (maxSteps := 1000000) only [go_sem, simprocAttr, ↓reduceIte, c1])
  refine VcCall.k (k2) ?_
  (repeat' first | with_reducible (first | intro _ | refine rc ?_ | refine rl ?_ | refine rh ?_ | refine rt ?_ | refine rf ?_ | refine rs ?_ | refine And.intro ?_ ?_) | omega | simp (maxSteps := 1000000) only [go_sem, simprocAttr, ↓reduceIte, c1])
  refine VcCall.k (k3) ?_
  (repeat' first | with_reducible (first | intro _ | refine rc ?_ | refine rl ?_ | refine rh ?_ | refine rt ?_ | refine rf ?_ | refine rs ?_ | refine And.intro ?_ ?_) | omega | simp (maxSteps := 1000000) only [go_sem, simprocAttr, ↓reduceIte, c1, c2])
  cases hG : bestG G with
  | some g =>
    rw [hG] at b1
    refine VcCall.k (b1) ?_
    (repeat' first | with_reducible (first | intro _ | refine rc ?_ | refine rl ?_ | refine rh ?_ | refine rt ?_ | refine rf ?_ | refine rs ?_ | refine And.intro ?_ ?_) | omega | simp (maxSteps := 1000000) only [go_sem, simprocAttr, ↓reduceIte])
    refine Ret.auto 0 ?_ rfl ?_ <;> simp only [go_sem, reduceCtorEq, reduceIte, Nat.reduceEqDiff, Nat.reduceLT, Nat.reduceLeDiff, Int.natCast_succ, Post]
  | none =>
  rw [hG] at b1
  refine VcCall.k (b1) ?_
  (repeat' first | with_reducible (first | intro _ | refine rc ?_ | refine rl ?_ | refine rh ?_ | refine rt ?_ | refine rf ?_ | refine rs ?_ | refine And.intro ?_ ?_) | omega | simp (maxSteps := 1000000) only [go_sem, simprocAttr, ↓reduceIte])
  refine VcCall.k (k2) ?_
  by_cases hs : smallL w = w
  · rw [if_pos hs]
    (repeat' first | with_reducible (first | intro _ | refine rc ?_ | refine rl ?_ | refine rh ?_ | refine rt ?_ | refine rf ?_ | refine rs ?_ | refine And.intro ?_ ?_) | omega | simp (maxSteps := 1000000) only [go_sem, simprocAttr, ↓reduceIte, hs])
    refine Ret.auto 0 ?_ rfl ?_ <;> simp only [go_sem, reduceCtorEq, reduceIte, Nat.reduceEqDiff, Nat.reduceLT, Nat.reduceLeDiff, Int.natCast_succ, Post]
  rw [if_neg hs]
  generalize smallL w = lw at *
  (repeat' first | with_reducible (first | intro _ | refine rc ?_ | refine rl ?_ | refine rh ?_ | refine rt ?_ | refine rf ?_ | refine rs ?_ | refine And.intro ?_ ?_) | omega | simp (maxSteps := 1000000) only [go_sem, simprocAttr, ↓reduceIte, hs])
  refine VcCall.k (k2) ?_
  (repeat' first | with_reducible (first | intro _ | refine rc ?_ | refine rl ?_ | refine rh ?_ | refine rt ?_ | refine rf ?_ | refine rs ?_ | refine And.intro ?_ ?_) | omega | simp (maxSteps := 1000000) only [go_sem, simprocAttr, ↓reduceIte])
  cases hG2 : bestG G2 with
  | none =>
    rw [hG2] at b2
    refine VcCall.k (b2) ?_
    (repeat' first | with_reducible (first | intro _ | refine rc ?_ | refine rl ?_ | refine rh ?_ | refine rt ?_ | refine rf ?_ | refine rs ?_ | refine And.intro ?_ ?_) | omega | simp (maxSteps := 1000000) only [go_sem, simprocAttr, ↓reduceIte])
    refine Ret.auto 0 ?_ rfl ?_ <;> simp only [go_sem, reduceCtorEq, reduceIte, Nat.reduceEqDiff, Nat.reduceLT, Nat.reduceLeDiff, Int.natCast_succ, Post]
  | some g =>
  rw [hG2] at b2
  obtain ⟨g1, g2⟩ := hbw g hG2
  have kg2 := refGreat_ok g.t
  have kg3 := refGreat_ok (g.t.take 1)
  have gl : (greatL (g.t.take 1)).length ≤ 1 := by unfold greatL; simp; omega
  have hwl : 0 < w.length := List.length_pos_iff.2 hwb.1
  obtain ⟨gt, gd', gc⟩ := g
  dsimp only at b2 g1 g2 kg2 kg3 gl ⊢
  clear b1 hbw
  refine VcCall.k (b2) ?_
  (repeat' first | with_reducible (first | intro _ | refine rc ?_ | refine rl ?_ | refine rh ?_ | refine rt ?_ | refine rf ?_ | refine rs ?_ | refine And.intro ?_ ?_) | omega | simp (maxSteps := 1000000) only [go_sem, simprocAttr, ↓reduceIte])
  refine VcLoop.intro (fun i : Nat => ⟨112, [(62, .int .i64 i), (61, .int .i64 w.length), (1, .str w), (12, .str gt), (15, .int .i64 ((w.take i).countP isUp + (w.take i).countP isLow : Nat))], [], 0⟩) (fun i => i ≤ w.length) (fun i => w.length - i) 0 ?_ (Nat.zero_le _) fun i hi => ?_
  · refine Ent.auto0 rfl ?_ ?_ <;> simp only [go_sem, reduceCtorEq, reduceIte, Nat.reduceEqDiff, Nat.reduceLT, Nat.reduceLeDiff, Int.natCast_succ]
    all_goals rfl
  have q1 := countP_le isUp w i
  have q2 := countP_le isLow w i
  by_cases hlt : i < w.length
  · have s1 := countP_take isUp hlt
    have s2 := countP_take isLow hlt
    generalize (w.take i).countP isUp = u at *
    generalize (w.take i).countP isLow = l at *
    generalize hu2 : (w.take (i + 1)).countP isUp = u2 at *
    generalize hl2 : (w.take (i + 1)).countP isLow = l2 at *
    unfold isUp at s1
    unfold isLow at s2
    generalize hcc : w.getD i 0 = c at *
    simp only [decide_eq_true_eq] at s1 s2
    by_cases p2 : 97 ≤ c.toNat ∧ c.toNat ≤ 122
    · rw [if_pos p2] at s2
      rw [if_neg (by omega)] at s1
      have n2 : ((u2 + l2 : Nat) : Int) = ((u + l : Nat) : Int) + 1 := by omega
      have i2 : (97 : Int) ≤ (c.toNat : Int) ∧ (c.toNat : Int) ≤ 122 := by omega
      (repeat' first | with_reducible (first | intro _ | refine rc ?_ | refine rl ?_ | refine rh ?_ | refine rt ?_ | refine rf ?_ | refine rs ?_ | refine And.intro ?_ ?_) | omega | simp (maxSteps := 1000000) only [go_sem, simprocAttr, ↓reduceIte, i2, hcc])
      refine ⟨i + 1, Ent.auto0 rfl ?_ ?_, by omega, by omega⟩ <;> simp only [go_sem, reduceCtorEq, reduceIte, Nat.reduceEqDiff, Nat.reduceLT, Nat.reduceLeDiff, Int.natCast_succ, hu2, hl2, n2]
    · rw [if_neg p2] at s2
      have i2 : ¬ ((97 : Int) ≤ (c.toNat : Int) ∧ (c.toNat : Int) ≤ 122) := by omega
      by_cases p1 : 65 ≤ c.toNat ∧ c.toNat ≤ 90
      · rw [if_pos p1] at s1
        have n2 : ((u2 + l2 : Nat) : Int) = ((u + l : Nat) : Int) + 1 := by omega
        have i1 : (65 : Int) ≤ (c.toNat : Int) ∧ (c.toNat : Int) ≤ 90 := by omega
        (repeat' first | with_reducible (first | intro _ | refine rc ?_ | refine rl ?_ | refine rh ?_ | refine rt ?_ | refine rf ?_ | refine rs ?_ | refine And.intro ?_ ?_) | omega | simp (maxSteps := 1000000) only [go_sem, simprocAttr, ↓reduceIte, i1, i2, hcc])
        refine ⟨i + 1, Ent.auto0 rfl ?_ ?_, by omega, by omega⟩ <;> simp only [go_sem, reduceCtorEq, reduceIte, Nat.reduceEqDiff, Nat.reduceLT, Nat.reduceLeDiff, Int.natCast_succ, hu2, hl2, n2]
      · rw [if_neg p1] at s1
        have n1 : u2 = u := by omega
        have n2 : l2 = l := by omega
        subst n1 n2
        have i1 : ¬ ((65 : Int) ≤ (c.toNat : Int) ∧ (c.toNat : Int) ≤ 90) := by omega
        (repeat' first | with_reducible (first | intro _ | refine rc ?_ | refine rl ?_ | refine rh ?_ | refine rt ?_ | refine rf ?_ | refine rs ?_ | refine And.intro ?_ ?_) | omega | simp (maxSteps := 1000000) only [go_sem, simprocAttr, ↓reduceIte, i1, i2, hcc])
        refine ⟨i + 1, Ent.auto0 rfl ?_ ?_, by omega, by omega⟩ <;> simp only [go_sem, reduceCtorEq, reduceIte, Nat.reduceEqDiff, Nat.reduceLT, Nat.reduceLeDiff, Int.natCast_succ, hu2, hl2]
  have e : i = w.length := by omega
  subst e
  rw [List.take_length] at q1 q2 ⊢
  rw [show w.countP isUp = ups w from rfl] at q1 ⊢
  rw [show w.countP isLow = lows w from rfl] at q2 ⊢
  unfold recL
  unfold isUp
  simp only [decide_eq_true_eq]
  generalize ups w = u at *
  generalize lows w = lo at *
  generalize greatL w = gw at *
  by_cases a1 : 2 ≤ u + lo
  · have j1 : (2 : Int) ≤ ((u + lo : Nat) : Int) := by omega
    by_cases a2 : lo = 0
    · rw [if_pos ⟨a1, a2⟩]
      have j2 := hgs.2 a2
      (repeat' first | with_reducible (first | intro _ | refine rc ?_ | refine rl ?_ | refine rh ?_ | refine rt ?_ | refine rf ?_ | refine rs ?_ | refine And.intro ?_ ?_) | omega | simp (maxSteps := 1000000) only [go_sem, simprocAttr, ↓reduceIte, j1])
      refine VcCall.k (kg) ?_
      (repeat' first | with_reducible (first | intro _ | refine rc ?_ | refine rl ?_ | refine rh ?_ | refine rt ?_ | refine rf ?_ | refine rs ?_ | refine And.intro ?_ ?_) | omega | simp (maxSteps := 1000000) only [go_sem, simprocAttr, ↓reduceIte, j1, j2])
      refine VcCall.k (kg2) ?_
      (repeat' first | with_reducible (first | intro _ | refine rc ?_ | refine rl ?_ | refine rh ?_ | refine rt ?_ | refine rf ?_ | refine rs ?_ | refine And.intro ?_ ?_) | omega | simp (maxSteps := 1000000) only [go_sem, simprocAttr, ↓reduceIte])
      refine Ret.auto 0 ?_ rfl ?_ <;> simp only [go_sem, reduceCtorEq, reduceIte, Nat.reduceEqDiff, Nat.reduceLT, Nat.reduceLeDiff, Int.natCast_succ, Post]
    · rw [if_neg (fun h => a2 h.2)]
      have j2 : ¬ gw = w := fun h => a2 (hgs.1 h)
      generalize hcc : w.getD 0 0 = c at *
      by_cases p1 : 65 ≤ c.toNat ∧ c.toNat ≤ 90
      · rw [if_pos p1]
        have i1 : (65 : Int) ≤ (c.toNat : Int) ∧ (c.toNat : Int) ≤ 90 := by omega
        (repeat' first | with_reducible (first | intro _ | refine rc ?_ | refine rl ?_ | refine rh ?_ | refine rt ?_ | refine rf ?_ | refine rs ?_ | refine And.intro ?_ ?_) | omega | simp (maxSteps := 1000000) only [go_sem, simprocAttr, ↓reduceIte, j1])
        refine VcCall.k (kg) ?_
        (repeat' first | with_reducible (first | intro _ | refine rc ?_ | refine rl ?_ | refine rh ?_ | refine rt ?_ | refine rf ?_ | refine rs ?_ | refine And.intro ?_ ?_) | omega | simp (maxSteps := 1000000) only [go_sem, simprocAttr, ↓reduceIte, j1, j2, i1, hcc])
        refine VcDraw.lex [] [] (by kernel_rfl) (by kernel_rfl) ?_
        (repeat' first | with_reducible (first | intro _ | refine rc ?_ | refine rl ?_ | refine rh ?_ | refine rt ?_ | refine rf ?_ | refine rs ?_ | refine And.intro ?_ ?_) | omega | simp (maxSteps := 1000000) only [go_sem, simprocAttr, ↓reduceIte])
        refine QV.intro (.str (greatL (gt.take 1))) ?_ ?_
        · (repeat' first | with_reducible (first | intro _ | refine rc ?_ | refine rl ?_ | refine rh ?_ | refine rt ?_ | refine rf ?_ | refine rs ?_ | refine And.intro ?_ ?_) | omega | simp (maxSteps := 1000000) only [go_sem, simprocAttr, ↓reduceIte])
          refine VcCall.k (kg3) ?_
          (repeat' first | with_reducible (first | intro _ | refine rc ?_ | refine rl ?_ | refine rh ?_ | refine rt ?_ | refine rf ?_ | refine rs ?_ | refine And.intro ?_ ?_) | omega | simp (maxSteps := 1000000) only [go_sem, simprocAttr, ↓reduceIte])
        (repeat' first | with_reducible (first | intro _ | refine rc ?_ | refine rl ?_ | refine rh ?_ | refine rt ?_ | refine rf ?_ | refine rs ?_ | refine And.intro ?_ ?_) | omega | simp (maxSteps := 1000000) only [go_sem, simprocAttr, ↓reduceIte])
        refine Ret.auto 0 ?_ rfl ?_ <;> simp only [go_sem, reduceCtorEq, reduceIte, Nat.reduceEqDiff, Nat.reduceLT, Nat.reduceLeDiff, Int.natCast_succ, Post]
        have hdt : List.take (gt.length - 1) (List.drop 1 gt) = List.drop 1 gt := List.take_of_length_le (by rw [List.length_drop]; exact Nat.le_refl _)
        rw [hdt]
      · rw [if_neg p1]
        have i1 : ¬ ((65 : Int) ≤ (c.toNat : Int) ∧ (c.toNat : Int) ≤ 90) := by omega
        (repeat' first | with_reducible (first | intro _ | refine rc ?_ | refine rl ?_ | refine rh ?_ | refine rt ?_ | refine rf ?_ | refine rs ?_ | refine And.intro ?_ ?_) | omega | simp (maxSteps := 1000000) only [go_sem, simprocAttr, ↓reduceIte, j1])
        refine VcCall.k (kg) ?_
        (repeat' first | with_reducible (first | intro _ | refine rc ?_ | refine rl ?_ | refine rh ?_ | refine rt ?_ | refine rf ?_ | refine rs ?_ | refine And.intro ?_ ?_) | omega | simp (maxSteps := 1000000) only [go_sem, simprocAttr, ↓reduceIte, j1, j2, i1, hcc])
        refine Ret.auto 0 ?_ rfl ?_ <;> simp only [go_sem, reduceCtorEq, reduceIte, Nat.reduceEqDiff, Nat.reduceLT, Nat.reduceLeDiff, Int.natCast_succ, Post]
  · have j1 : ¬ (2 : Int) ≤ ((u + lo : Nat) : Int) := by omega
    rw [if_neg (fun h => a1 h.1)]
    generalize hcc : w.getD 0 0 = c at *
    by_cases p1 : 65 ≤ c.toNat ∧ c.toNat ≤ 90
    · rw [if_pos p1]
      have i1 : (65 : Int) ≤ (c.toNat : Int) ∧ (c.toNat : Int) ≤ 90 := by omega
      (repeat' first | with_reducible (first | intro _ | refine rc ?_ | refine rl ?_ | refine rh ?_ | refine rt ?_ | refine rf ?_ | refine rs ?_ | refine And.intro ?_ ?_) | omega | simp (maxSteps := 1000000) only [go_sem, simprocAttr, ↓reduceIte, j1, i1, hcc])
      refine VcDraw.lex [] [] (by kernel_rfl) (by kernel_rfl) ?_
      (repeat' first | with_reducible (first | intro _ | refine rc ?_ | refine rl ?_ | refine rh ?_ | refine rt ?_ | refine rf ?_ | refine rs ?_ | refine And.intro ?_ ?_) | omega | simp (maxSteps := 1000000) only [go_sem, simprocAttr, ↓reduceIte])
      refine QV.intro (.str (greatL (gt.take 1))) ?_ ?_
      · (repeat' first | with_reducible (first | intro _ | refine rc ?_ | refine rl ?_ | refine rh ?_ | refine rt ?_ | refine rf ?_ | refine rs ?_ | refine And.intro ?_ ?_) | omega | simp (maxSteps := 1000000) only [go_sem, simprocAttr, ↓reduceIte])
        refine VcCall.k (kg3) ?_
        (repeat' first | with_reducible (first | intro _ | refine rc ?_ | refine rl ?_ | refine rh ?_ | refine rt ?_ | refine rf ?_ | refine rs ?_ | refine And.intro ?_ ?_) | omega | simp (maxSteps := 1000000) only [go_sem, simprocAttr, ↓reduceIte])
      (repeat' first | with_reducible (first | intro _ | refine rc ?_ | refine rl ?_ | refine rh ?_ | refine rt ?_ | refine rf ?_ | refine rs ?_ | refine And.intro ?_ ?_) | omega | simp (maxSteps := 1000000) only [go_sem, simprocAttr, ↓reduceIte])
      refine Ret.auto 0 ?_ rfl ?_ <;> simp only [go_sem, reduceCtorEq, reduceIte, Nat.reduceEqDiff, Nat.reduceLT, Nat.reduceLeDiff, Int.natCast_succ, Post]
      have hdt : List.take (gt.length - 1) (List.drop 1 gt) = List.drop 1 gt := List.take_of_length_le (by rw [List.length_drop]; exact Nat.le_refl _)
      rw [hdt]
    · rw [if_neg p1]
      have i1 : ¬ ((65 : Int) ≤ (c.toNat : Int) ∧ (c.toNat : Int) ≤ 90) := by omega
      (repeat' first | with_reducible (first | intro _ | refine rc ?_ | refine rl ?_ | refine rh ?_ | refine rt ?_ | refine rf ?_ | refine rs ?_ | refine And.intro ?_ ?_) | omega | simp (maxSteps := 1000000) only [go_sem, simprocAttr, ↓reduceIte, j1, i1, hcc])
      refine Ret.auto 0 ?_ rfl ?_ <;> simp only [go_sem, reduceCtorEq, reduceIte, Nat.reduceEqDiff, Nat.reduceLT, Nat.reduceLeDiff, Int.natCast_succ, Post]
end Go.Fv.Y

/- Correct: bounds and errors. -/
namespace Go.Fv.Y
open Go Go.Proofs
set_option linter.unusedSimpArgs false
set_option linter.unusedVariables false
set_option linter.unnecessarySimpa false
set_option maxRecDepth 8000

def corrErr (l : List Mx) (most : Int) : Int := if mixErr l = 0 then (if most < 0 ∨ 10000 < most then 3 else 0) else mixErr l
theorem fx_snoc (l : List Fx) (a : Int) (o n : Bytes) : (l ++ [(⟨a, o, n⟩ : Fx)]).map Fx.av = l.map Fx.av ++ [[.int .i64 a, .str o, .str n]] := by simp [Fx.av]
/-- What is known of the work after i tokens. -/
structure CsOk (g : Bytes → Bytes) (T : List Tok) (i : Nat) : Prop where
  b : (csAll g (T.take i)).b.length ≤ (textOf T).length + 40 * i
  f : (csAll g (T.take i)).f.length ≤ i
  a : (csAll g (T.take i)).at_ ≤ (textOf T).length
theorem textOf_le (T : List Tok) (i : Nat) : (textOf (T.take i)).length ≤ (textOf T).length := by
  have : textOf T = textOf (T.take i) ++ textOf (T.drop i) := by rw [← textOf_app, List.take_append_drop]
  rw [this, List.length_append]; omega
theorem cs_ok {f : Bytes → Bytes} {T : List Tok} (hT : ∀ t, t ∈ T → (pieceOf f t).length ≤ t.1.length + 40) : ∀ i, i ≤ T.length → CsOk f T i := by
  have key : ∀ i, i ≤ T.length → (csAll f (T.take i)).b.length ≤ (textOf (T.take i)).length + 40 * i ∧ (csAll f (T.take i)).f.length ≤ i := by
    intro i
    induction i with
    | zero => intro _; exact ⟨Nat.zero_le _, Nat.le_refl _⟩
    | succ i ih =>
      intro hi
      obtain ⟨h1, h2⟩ := ih (by omega)
      rw [csAll_take f hi]
      have h3 := hT (T.getD i ([], false)) (by rw [getD_lt hi]; exact List.getElem_mem hi)
      have h4 : textOf (T.take (i + 1)) = textOf (T.take i) ++ (T.getD i ([], false)).1 := by
        rw [List.take_succ_eq_append_getElem hi, textOf_app, getD_lt hi]; simp [textOf]
      rw [h4, List.length_append]
      unfold CS.step
      dsimp only
      refine ⟨by rw [List.length_append]; omega, ?_⟩
      split
      · omega
      · rw [List.length_append]
        show _ + 1 ≤ _
        omega
  intro i hi
  obtain ⟨h1, h2⟩ := key i hi
  have h3 := textOf_le T i
  exact ⟨by omega, h2, by rw [csAll_at]; exact h3⟩
theorem piece_bd {D : List Wd} (hg : GoodD D) (sw : List Sw) (most : Int) {T : List Tok} (hT : TokOk T) : ∀ t, t ∈ T → (pieceOf (corrW D sw most) t).length ≤ t.1.length + 40 := fun t ht => by
  unfold pieceOf
  split
  · rename_i h
    have := (corrW_bd hg sw most ((hT t ht).2 h)).2
    omega
  · omega
end Go.Fv.Y

/- The fixes make the text. -/
namespace Go.Fv.Y
open Go
set_option linter.unusedSimpArgs false
set_option linter.unusedVariables false
set_option linter.unnecessarySimpa false

def fixesFrom (f : Bytes → Bytes) : Nat → List Tok → List Fx
  | _, [] => []
  | p, t :: T => if pieceOf f t = t.1 then fixesFrom f (p + t.1.length) T else ⟨p, t.1, pieceOf f t⟩ :: fixesFrom f (p + t.1.length) T
theorem fixes_cons (f : Bytes → Bytes) (p : Nat) (t : Tok) (T : List Tok) : fixesFrom f p (t :: T) = if pieceOf f t = t.1 then fixesFrom f (p + t.1.length) T else ⟨p, t.1, pieceOf f t⟩ :: fixesFrom f (p + t.1.length) T := rfl
def piecesOf (f : Bytes → Bytes) (T : List Tok) : Bytes := (T.map (pieceOf f)).flatten
theorem csAll_from (f : Bytes → Bytes) : ∀ (T : List Tok) (s : CS), (T.foldl (CS.step f) s).b = s.b ++ piecesOf f T ∧ (T.foldl (CS.step f) s).f = s.f ++ fixesFrom f s.at_ T
  | [], s => by simp [piecesOf, fixesFrom]
  | t :: T, s => by
    obtain ⟨h1, h2⟩ := csAll_from f T (CS.step f s t)
    rw [List.foldl_cons, h1, h2]
    rw [fixes_cons]
    unfold CS.step
    dsimp only
    refine ⟨by simp [piecesOf], ?_⟩
    split
    · rfl
    · simp
theorem csAll_b (f : Bytes → Bytes) (T : List Tok) : (csAll f T).b = piecesOf f T := by
  have := (csAll_from f T ⟨[], [], 0⟩).1
  simpa [csAll] using this
theorem csAll_f (f : Bytes → Bytes) (T : List Tok) : (csAll f T).f = fixesFrom f 0 T := by
  have := (csAll_from f T ⟨[], [], 0⟩).2
  simpa [csAll] using this
/-- Fixes that lie in their text, one behind the other. -/
def FxOk (s : Bytes) : Nat → List Fx → Prop
  | _, [] => True
  | q, x :: F => (∃ p : Nat, x.a = (p : Int) ∧ q ≤ p ∧ p + x.o.length ≤ s.length ∧ (s.drop p).take x.o.length = x.o ∧ FxOk s (p + x.o.length) F)
def madeF (s : Bytes) : Nat → List Fx → Bytes
  | q, [] => s.drop q
  | q, x :: F => (s.drop q).take (x.a.toNat - q) ++ x.n ++ madeF s (x.a.toNat + x.o.length) F
theorem take_more {s : Bytes} {p q : Nat} {t r : Bytes} (hq : q ≤ p) (h : s.drop p = t ++ r) : (s.drop q).take (p + t.length - q) = (s.drop q).take (p - q) ++ t := by
  rw [show p + t.length - q = (p - q) + t.length by omega, List.take_add, List.drop_drop, show q + (p - q) = p by omega, h, List.take_left]
theorem fixes_ok (f : Bytes → Bytes) (s : Bytes) : ∀ (T : List Tok) (p q : Nat), q ≤ p → p ≤ s.length → s.drop p = textOf T → FxOk s q (fixesFrom f p T) ∧ madeF s q (fixesFrom f p T) = (s.drop q).take (p - q) ++ piecesOf f T
  | [], p, q, hq, hps, h => by
    have h0 : s.drop p = [] := h
    have hl := congrArg List.length h0
    rw [List.length_drop, List.length_nil] at hl
    refine ⟨trivial, ?_⟩
    show s.drop q = _
    rw [List.take_of_length_le (by rw [List.length_drop]; omega)]
    simp [piecesOf]
  | t :: T, p, q, hq, hps, h => by
    have h1 : s.drop p = t.1 ++ textOf T := by rw [h]; simp [textOf]
    have h2 : s.drop (p + t.1.length) = textOf T := by rw [← List.drop_drop, h1, List.drop_left]
    have hl := congrArg List.length h1
    rw [List.length_drop, List.length_append] at hl
    have hp : piecesOf f (t :: T) = pieceOf f t ++ piecesOf f T := by simp [piecesOf]
    rw [fixes_cons]
    split
    · rename_i he
      obtain ⟨a1, a2⟩ := fixes_ok f s T (p + t.1.length) q (by omega) (by omega) h2
      refine ⟨a1, ?_⟩
      rw [a2, take_more hq h1, hp, he, List.append_assoc]
    · obtain ⟨a1, a2⟩ := fixes_ok f s T (p + t.1.length) (p + t.1.length) (Nat.le_refl _) (by omega) h2
      refine ⟨⟨p, rfl, hq, ?_, by rw [h1, List.take_left], a1⟩, ?_⟩
      · dsimp only; omega
      · show (s.drop q).take ((p : Int).toNat - q) ++ pieceOf f t ++ madeF s ((p : Int).toNat + t.1.length) _ = _
        rw [Int.toNat_natCast, a2, hp, Nat.sub_self, List.take_zero, List.nil_append, List.append_assoc]
end Go.Fv.Y

/- strings.Builder: copyCheck at this program. -/
namespace Go.Fv.Y
open Go Go.Proofs Go.RowKit
set_option linter.unusedSimpArgs false
set_option linter.unusedVariables false
set_option linter.unnecessarySimpa false
set_option maxRecDepth 8000

theorem setCell_same (w : World) (g : Nat) (a b v : Value) (t : TypeId) (h : w.heap[g]? = some (.cells #[a, b] t (0, 0))) : (w.setCell ⟨g, 0, none⟩ v).heap[g]? = some (.cells #[v, b] t (0, 0)) := by
  unfold World.setCell
  simp [h, Array.getElem?_modify]
theorem setCell_other' (w : World) (g k : Nat) (v : Value) (h : k ≠ g) : (w.setCell ⟨g, 0, none⟩ v).heap[k]? = w.heap[k]? := by
  unfold World.setCell
  simp only [Array.getElem?_modify]
  rw [if_neg (fun e => h e.symm)]
theorem sizeB : (Tryz.prog.info? 100).map (·.size) = some 2 := by kernel_rfl
theorem liesB : liesAt Tryz.prog Tryz.prog.depth 100 (2 / Tryz.prog.cellsOf 100) 0 100 1 = true := by kernel_rfl
theorem ntB : Tryz.f100.ntmps = 20 := rfl
set_option maxHeartbeats 1000000 in
set_option maxRecDepth 100000 in
theorem copyUsed (b : Nat) (w : World) (h0 : w.cell? ⟨b, 0, none⟩ = some (.pointer (some ⟨b, 0, none⟩))) :
    Calls Tryz.prog 100 #[.pointer (some ⟨b, 0, none⟩)] w fun e w' => e = .returned (.tuple #[]) ∧ w' = w := by
  have t70 := Tryz.underlying98
  have t72 := Tryz.underlying100
  have a72 := Tryz.isAgg100
  have z72 := Tryz.sizeOf100
  have a70 := Tryz.isAgg98
  have z70 := Tryz.sizeOf98
  have hf := Tryz.func100
  have mixed : Tryz.prog.follows .mixedOrders = true := by kernel_rfl
  obtain ⟨j, hj, hjs⟩ := Option.map_eq_some_iff.1 sizeB
  have u70 := run_underlying t70
  have u72 := run_underlying t72
  have hn := ntB
  generalize Tryz.prog = P at *
  go_enter hf, hn
  go_wp2
  rw [Lib.run_neq_ptr_same w _ t70 hj]
  go_wp2
  go_end0
  exact ⟨rfl, rfl⟩
set_option maxHeartbeats 1000000 in
set_option maxRecDepth 100000 in
theorem copyFresh (b : Nat) (w : World) (h0 : w.cell? ⟨b, 0, none⟩ = some (.pointer none)) (hsh : w.shape? b = some (100, 2)) (hfz : w.frozen? ⟨b, 0, none⟩ = false) :
    Calls Tryz.prog 100 #[.pointer (some ⟨b, 0, none⟩)] w fun e w' => e = .returned (.tuple #[]) ∧ w' = w.setCell ⟨b, 0, none⟩ (.pointer (some ⟨b, 0, none⟩)) := by
  have t70 := Tryz.underlying98
  have t72 := Tryz.underlying100
  have t164 := Tryz.underlying168
  have a72 := Tryz.isAgg100
  have z72 := Tryz.sizeOf100
  have a70 := Tryz.isAgg98
  have z70 := Tryz.sizeOf98
  have hf := Tryz.func100
  have hx := Tryz.func130
  have mixed : Tryz.prog.follows .mixedOrders = true := by kernel_rfl
  obtain ⟨j, hj, hjs⟩ := Option.map_eq_some_iff.1 sizeB
  have hlies := liesB
  have u70 := run_underlying t70
  have u72 := run_underlying t72
  have hn := ntB
  generalize Tryz.prog = P at *
  go_enter hf, hn
  go_wp2
  rw [Lib.run_to_unsafe w ⟨b, 0, none⟩ t70 t164 hj (by rw [hjs]; decide) hsh (Nat.zero_lt_succ 1)]
  simp only [Result.andThen]
  rw [Oper.upon_value]
  go_wp2
  rw [run_callFunc_extern hx (by kernel_rfl) (by kernel_rfl) (by kernel_rfl) (e := Extern.AbiNoEscape.same) (by kernel_rfl)]
  rw [Lib.run_noEscape]
  simp only [Result.andThen]
  rw [Oper.upon_value]
  go_wp2
  rw [Lib.run_from_unsafe w ⟨b, 0, none⟩ t164 t70 hj hsh hlies]
  simp only [Result.andThen]
  rw [Oper.upon_value]
  go_wp2
  go_end0
  exact ⟨rfl, rfl⟩
end Go.Fv.Y
