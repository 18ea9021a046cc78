/-
  A part of the proof of the claim: walks over the program's functions and the plain laws that these need. No condition of its own.
-/
import Derived.Test.YtpnlkjeedfmhfaaDoorSFactsCardPart3
import Derived.Test.YtpnlkjeedfmhfaaDoorSFactsCardPart1
import Derived.Shelf.Strconv.Itoa3
import Derived.Test.YtpnlkjeedfmhfaaDoorSFactsCardPart5
import Derived.Test.YtpnlkjeedfmhfaaDoorSFactsCardPart6
/- slices.IndexFunc and ContainsFunc of integers. -/
namespace Go.Fv.S
open Go Go.Proofs
set_option linter.unusedSimpArgs false
set_option linter.unusedVariables false
set_option maxRecDepth 8000
set_option maxHeartbeats 1000000 in
theorem indexFuncI_ok (l : List Int) (f : Nat) (caps : List AV) [CapsOk caps] (q : Int → Bool) (hq : ∀ x : Int, x ∈ l → FnFr Tryd.prog f ([.int .i64 x] ++ caps) (.bool (q x)) []) :
    FnOk Tryd.prog 105 [.ro (.ints .i64 l), .fn f caps] (.int .i64 (firstAt q l 0)) [] := by
  refine FnOk.of_vc Tryd.func105 rfl (by decide) (by simp [Tryd.f105]) [.tmp 4] rfl fun w0 T0 _ => ?_
  simp only [Tryd.f105, argEnv]
  (repeat' first | with_reducible (first | refine Asm.intro fun _ => ?_ | refine Chk.g ?_ | refine AnyI.i64 fun _ _ => ?_ | refine LetW.g ?_ | refine LetW.h ?_ | refine Ite.t fun _ => ?_ | refine Ite.f fun _ => ?_ | refine Ite.decide (fun _ => ?_) fun _ => ?_ | refine Ite.bool (fun _ => ?_) fun _ => ?_ | refine And.intro ?_ ?_) | omega | simp (maxSteps := 1000000) only [go_sem, reduceCtorEq, Nat.reduceLT, Nat.reduceLeDiff, reduceIte, ↓reduceIte, Nat.reduceEqDiff, Nat.reduceAdd, Nat.reduceMul, Nat.reduceSub, Int.reduceLE, Int.reduceLT, Int.reduceNeg, Int.reduceToNat, List.length_map])
  refine VcLoop.intro (fun i : Nat => ⟨19, [(0, .ro (.ints .i64 l)), (1, .fn f caps), (7, .int .i64 l.length), (8, .int .i64 i)], [], 0⟩) (fun i => i ≤ l.length ∧ firstAt q (l.drop i) i = firstAt q l 0) (fun i => l.length - i) 0 ?_ ⟨Nat.zero_le _, rfl⟩ fun i hI => ?_
  · refine Ent.auto0 rfl ?_ ?_ <;> simp only [go_sem, reduceCtorEq, reduceIte, Nat.reduceEqDiff, Nat.reduceLT, Nat.reduceLeDiff, Int.natCast_succ]
  obtain ⟨hl, hI⟩ := hI
  by_cases hlt : i < l.length
  · have he := trivial
    have hd := drop_at l 0 hlt
    rw [hd, firstAt] at hI
    (repeat' first | with_reducible (first | refine Asm.intro fun _ => ?_ | refine Chk.g ?_ | refine AnyI.i64 fun _ _ => ?_ | refine LetW.g ?_ | refine LetW.h ?_ | refine Ite.t fun _ => ?_ | refine Ite.f fun _ => ?_ | refine Ite.decide (fun _ => ?_) fun _ => ?_ | refine Ite.bool (fun _ => ?_) fun _ => ?_ | refine And.intro ?_ ?_) | omega | simp (maxSteps := 1000000) only [go_sem, reduceCtorEq, Nat.reduceLT, Nat.reduceLeDiff, reduceIte, ↓reduceIte, Nat.reduceEqDiff, Nat.reduceAdd, Nat.reduceMul, Nat.reduceSub, Int.reduceLE, Int.reduceLT, Int.reduceNeg, Int.reduceToNat, List.length_map, true_and])
    refine VcCall.fr (args' := [.int .i64 (l.getD i 0)] ++ caps) (hq _ (by rw [getD_lt hlt]; exact List.getElem_mem hlt)) (by simp [argOkL, allOk, argOkN, allOk_caps]) 0 rfl (by simp [rowsB]) ?_
    (repeat' first | with_reducible (first | refine Asm.intro fun _ => ?_ | refine Chk.g ?_ | refine AnyI.i64 fun _ _ => ?_ | refine LetW.g ?_ | refine LetW.h ?_ | refine Ite.t fun _ => ?_ | refine Ite.f fun _ => ?_ | refine Ite.decide (fun _ => ?_) fun _ => ?_ | refine Ite.bool (fun _ => ?_) fun _ => ?_ | refine And.intro ?_ ?_) | omega | simp (maxSteps := 1000000) only [go_sem, reduceCtorEq, Nat.reduceLT, Nat.reduceLeDiff, reduceIte, ↓reduceIte, Nat.reduceEqDiff, Nat.reduceAdd, Nat.reduceMul, Nat.reduceSub, Int.reduceLE, Int.reduceLT, Int.reduceNeg, Int.reduceToNat])
    · rename_i h2
      rw [if_pos h2] at hI
      refine Ret.auto 0 ?_ rfl ?_ <;> simp only [go_sem, reduceCtorEq, reduceIte, Nat.reduceEqDiff, Nat.reduceLT, Nat.reduceLeDiff, Int.natCast_succ, Post]
      rw [← hI]
    · rename_i h2
      rw [if_neg (by rw [h2]; exact Bool.false_ne_true)] at hI
      refine ⟨i + 1, Ent.auto0 rfl ?_ ?_, ⟨by omega, hI⟩, by omega⟩ <;> simp only [go_sem, reduceCtorEq, reduceIte, Nat.reduceEqDiff, Nat.reduceLT, Nat.reduceLeDiff, Int.natCast_succ]
      all_goals rfl
  · have e : i = l.length := by omega
    subst e
    rw [List.drop_length] at hI
    (repeat' first | with_reducible (first | refine Asm.intro fun _ => ?_ | refine Chk.g ?_ | refine AnyI.i64 fun _ _ => ?_ | refine LetW.g ?_ | refine LetW.h ?_ | refine Ite.t fun _ => ?_ | refine Ite.f fun _ => ?_ | refine Ite.decide (fun _ => ?_) fun _ => ?_ | refine Ite.bool (fun _ => ?_) fun _ => ?_ | refine And.intro ?_ ?_) | omega | simp (maxSteps := 1000000) only [go_sem, reduceCtorEq, Nat.reduceLT, Nat.reduceLeDiff, reduceIte, ↓reduceIte, Nat.reduceEqDiff, Nat.reduceAdd, Nat.reduceMul, Nat.reduceSub, Int.reduceLE, Int.reduceLT, Int.reduceNeg, Int.reduceToNat, List.length_map])
    refine Ret.auto 0 ?_ rfl ?_ <;> simp only [go_sem, reduceCtorEq, reduceIte, Nat.reduceEqDiff, Nat.reduceLT, Nat.reduceLeDiff, Int.natCast_succ, Post]
    rw [← hI]; rfl

theorem contFuncI_ok (l : List Int) (f : Nat) (caps : List AV) [CapsOk caps] (q : Int → Bool) (hq : ∀ s : Int, s ∈ l → FnFr Tryd.prog f ([.int .i64 s] ++ caps) (.bool (q s)) []) :
    FnOk Tryd.prog 41 [.ro (.ints .i64 l), .fn f caps] (.bool (l.any q)) [] := by
  have k := indexFuncI_ok l f caps q hq
  have e : l.any q = decide (0 ≤ firstAt q l 0) := by rw [Bool.eq_iff_iff, decide_eq_true_eq, firstAt_any]
  rw [e]
  refine FnOk.of_vc Tryd.func41 rfl (by decide) (by simp [Tryd.f41]) [.tmp 4] rfl fun w0 T0 _ => ?_
  simp only [Tryd.f41, argEnv]
  (repeat' first | with_reducible (first | refine Asm.intro fun _ => ?_ | refine Chk.g ?_ | refine AnyI.i64 fun _ _ => ?_ | refine LetW.g ?_ | refine LetW.h ?_ | refine Ite.t fun _ => ?_ | refine Ite.f fun _ => ?_ | refine Ite.decide (fun _ => ?_) fun _ => ?_ | refine Ite.bool (fun _ => ?_) fun _ => ?_ | refine And.intro ?_ ?_) | omega | simp (maxSteps := 1000000) only [go_sem, reduceCtorEq, Nat.reduceLT, Nat.reduceLeDiff, reduceIte, ↓reduceIte, Nat.reduceEqDiff, Nat.reduceAdd, Nat.reduceMul, Nat.reduceSub, Int.reduceLE, Int.reduceLT, Int.reduceNeg, Int.reduceToNat])
  refine VcCall.fr (args' := [.ro (.ints .i64 l), .fn f caps]) (FnFr.of_ok k rfl rfl) (by simp [argOkL, allOk, argOkN, allOk_caps5]) 0 rfl (by simp [rowsB]) ?_
  (repeat' first | with_reducible (first | refine Asm.intro fun _ => ?_ | refine Chk.g ?_ | refine AnyI.i64 fun _ _ => ?_ | refine LetW.g ?_ | refine LetW.h ?_ | refine Ite.t fun _ => ?_ | refine Ite.f fun _ => ?_ | refine Ite.decide (fun _ => ?_) fun _ => ?_ | refine Ite.bool (fun _ => ?_) fun _ => ?_ | refine And.intro ?_ ?_) | omega | simp (maxSteps := 1000000) only [go_sem, reduceCtorEq, Nat.reduceLT, Nat.reduceLeDiff, reduceIte, ↓reduceIte, Nat.reduceEqDiff, Nat.reduceAdd, Nat.reduceMul, Nat.reduceSub, Int.reduceLE, Int.reduceLT, Int.reduceNeg, Int.reduceToNat])
  refine Ret.auto 0 ?_ rfl ?_ <;> simp only [go_sem, reduceCtorEq, reduceIte, Nat.reduceEqDiff, Nat.reduceLT, Nat.reduceLeDiff, Int.natCast_succ, Post]
end Go.Fv.S

/- strconv.Itoa of a number below a hundred, by the contract of the shelf. -/
namespace Go.Proofs
open Go.Shelf
def Tryd.lays171_ren : Go.Shelf.Ren := ⟨fun | 171 => 126 | 243 => 176 | 246 => 199 | 283 => 212 | 284 => 213 | 285 => 214 | 286 => 215 | 129 => 220 | 317 => 219 | 318 => 221 | 319 => 222 | 320 => 223 | 337 => 224 | 338 => 225 | n => n, fun | 3 => 3 | 9 => 9 | 2 => 2 | 4 => 4 | 171 => 217 | 0 => 0 | 53 => 218 | 37 => 121 | 5 => 5 | 173 => 221 | 212 => 232 | 51 => 225 | 20 => 20 | 213 => 233 | 46 => 207 | 232 => 236 | 233 => 237 | n => n, fun | 17 => 3 | 18 => 4 | 19 => 5 | n => n⟩
theorem Tryd.lays171 : Go.Proofs.Lays.n171 Tryd.prog Tryd.lays171_ren := {
  mixed := by kernel_rfl
  f129 := Tryd.func220.trans (congrArg some (by kernel_rfl))
  f171 := Tryd.func126.trans (congrArg some (by kernel_rfl))
  f243 := Tryd.func176.trans (congrArg some (by kernel_rfl))
  f246 := Tryd.func199.trans (congrArg some (by kernel_rfl))
  f283 := Tryd.func212.trans (congrArg some (by kernel_rfl))
  f284 := Tryd.func213.trans (congrArg some (by kernel_rfl))
  f285 := Tryd.func214.trans (congrArg some (by kernel_rfl))
  f286 := Tryd.func215.trans (congrArg some (by kernel_rfl))
  f317 := Tryd.func219.trans (congrArg some (by kernel_rfl))
  f318 := Tryd.func221.trans (congrArg some (by kernel_rfl))
  f319 := Tryd.func222.trans (congrArg some (by kernel_rfl))
  f320 := Tryd.func223.trans (congrArg some (by kernel_rfl))
  f337 := Tryd.func224.trans (congrArg some (by kernel_rfl))
  f338 := Tryd.func225.trans (congrArg some (by kernel_rfl))
  t0 := Tryd.underlying0
  a0 := Tryd.isAgg0
  z0 := Tryd.sizeOf0
  v0 := Tryd.zeroValue0
  t2 := Tryd.underlying2
  a2 := Tryd.isAgg2
  z2 := Tryd.sizeOf2
  v2 := Tryd.zeroValue2
  t3 := Tryd.underlying3
  a3 := Tryd.isAgg3
  z3 := Tryd.sizeOf3
  v3 := Tryd.zeroValue3
  t4 := Tryd.underlying4
  a4 := Tryd.isAgg4
  z4 := Tryd.sizeOf4
  v4 := Tryd.zeroValue4
  t5 := Tryd.underlying5
  a5 := Tryd.isAgg5
  z5 := Tryd.sizeOf5
  v5 := Tryd.zeroValue5
  t9 := Tryd.underlying9
  a9 := Tryd.isAgg9
  z9 := Tryd.sizeOf9
  v9 := Tryd.zeroValue9
  t20 := Tryd.underlying20
  a20 := Tryd.isAgg20
  z20 := Tryd.sizeOf20
  v20 := Tryd.zeroValue20
  t37 := Tryd.underlying121
  a37 := Tryd.isAgg121
  z37 := Tryd.sizeOf121
  v37 := Tryd.zeroValue121
  t46 := Tryd.underlying207
  a46 := Tryd.isAgg207
  z46 := Tryd.sizeOf207
  v46 := Tryd.zeroValue207
  t51 := Tryd.underlying225
  a51 := Tryd.isAgg225
  z51 := Tryd.sizeOf225
  v51 := Tryd.zeroValue225
  t53 := Tryd.underlying218
  a53 := Tryd.isAgg218
  z53 := Tryd.sizeOf218
  v53 := Tryd.zeroValue218
  t171 := Tryd.underlying217
  a171 := Tryd.isAgg217
  z171 := Tryd.sizeOf217
  v171 := Tryd.zeroValue217
  t173 := Tryd.underlying221
  a173 := Tryd.isAgg221
  z173 := Tryd.sizeOf221
  v173 := Tryd.zeroValue221
  t212 := Tryd.underlying232
  a212 := Tryd.isAgg232
  z212 := Tryd.sizeOf232
  v212 := Tryd.zeroValue232
  t213 := Tryd.underlying233
  a213 := Tryd.isAgg233
  z213 := Tryd.sizeOf233
  t232 := Tryd.underlying236
  a232 := Tryd.isAgg236
  z232 := Tryd.sizeOf236
  v232 := Tryd.zeroValue236
  t233 := Tryd.underlying237
  a233 := Tryd.isAgg237
  z233 := Tryd.sizeOf237
  v233 := Tryd.zeroValue237
  g17 := by kernel_rfl
  g18 := by kernel_rfl
  g19 := by kernel_rfl }
end Go.Proofs
namespace Go.Fv.S
open Go Go.Proofs
set_option linter.unusedSimpArgs false
set_option linter.unusedVariables false
set_option maxRecDepth 8000

theorem decDigits_small (i : Nat) (hi : i < 100) : (Lib.decDigits i).length ≤ 2 := by
  by_cases h : i < 10
  · rw [Lib.decDigits_one h]; simp
  · rw [Lib.decDigits_two h hi]; simp
theorem itoaSmall_ok (i : Nat) (hi : i < 100) : FnOk Tryd.prog 126 [.int .i64 i] (.str (Lib.decDigits i)) [] := by
  refine ⟨⟨_, Tryd.func126, by kernel_rfl, by kernel_rfl⟩, fun w T vals hg hv => ?_⟩
  cases hv with
  | cons _ _ _ _ h1 hv =>
    cases hv
    cases h1 with
    | int _ _ e1 =>
      have L := Tryd.lays171
      refine (Any.strconv_Itoa_small L i hi w).mono ?_
      rintro e w' ⟨rfl, rfl⟩
      refine ⟨_, rfl, RowKit.Below.refl _ _, fun _ => undef, 0, ?_, ?_, ?_⟩
      · refine .str _ ?_
        have := decDigits_small i hi
        have e : maxLen = 9223372036854775807 := rfl
        omega
      · intro i it h; cases h
      · intro i j it jt b h; cases h
end Go.Fv.S

/- Facts of a document, in plain words. -/
namespace Go.Fv.S
open Go Go.Proofs
set_option linter.unusedSimpArgs false
set_option linter.unusedVariables false
set_option linter.unnecessarySimpa false
set_option maxRecDepth 8000

structure Fa where
  name : List UInt8
  text : List UInt8
def Fa.av (f : Fa) : List AV := [.str f.name, .str f.text]
def Fa.zero : Fa := ⟨[], []⟩
abbrev fas (l : List Fa) : RowV := .objs 2 (l.map Fa.av)
instance : FNoId Fa.av := ⟨fun _ => rfl⟩
theorem fa_elem (l : List Fa) {i : Nat} (h : i < l.length) : (l.map Fa.av).getD i [] = [.str (l.getD i Fa.zero).name, .str (l.getD i Fa.zero).text] := by
  simp [List.getD_eq_getElem?_getD, h, Fa.av]
def codesAt (l : List Sh) (n : Int) : List (List UInt8) := (l.getD n.toNat Sh.zero).codes
def codeF (l : List Sh) (p : List Int) : List Fa := match p.find? fun n => decide (codesAt l n ≠ []) with
  | some n => [⟨[99, 111, 100, 101], (codesAt l n).getD 0 []⟩]
  | none => []
def kindFa (k : List UInt8) : List Fa := if k = [] then [] else [⟨[107, 105, 110, 100], k⟩]
def wordF (ws : List (List UInt8)) : List Fa := match ws.find? fun w => decide (5 ≤ w.length) with
  | some w => [⟨[119, 111, 114, 100], w⟩]
  | none => []
def factsL (l : List Sh) (d : Dc) : List Fa := codeF l d.pages ++ kindFa d.kind ++ [⟨[112, 97, 103, 101, 115], Lib.decDigits d.pages.length⟩] ++ wordF (textHas (l.getD (d.pages.getD 0 0).toNat Sh.zero).text)
def factsE (l : List Sh) (d : Dc) : Int := firstErr [docErr d, if (d.pages.any fun n => decide ((l.length : Int) ≤ n)) = true then 10 else 0]
theorem nodup_len : ∀ (n : Nat) (l : List Int), l.Nodup → (∀ x, x ∈ l → 0 ≤ x ∧ x < n) → l.length ≤ n
  | 0, [], _, _ => Nat.le_refl _
  | 0, x :: l, _, h => by have := h x (.head _); omega
  | n + 1, l, hd, h => by
    have ih := nodup_len n (l.erase (n : Int)) (hd.erase _) (fun x hx => by
      have h1 := h x (List.mem_of_mem_erase hx)
      have h2 : x ≠ (n : Int) := fun e => by subst e; exact (hd.not_mem_erase hx)
      omega)
    by_cases hm : (n : Int) ∈ l
    · rw [List.length_erase_of_mem hm] at ih; omega
    · rw [List.erase_of_not_mem hm] at ih; omega
theorem pgsN_all (l : List Int) : ∀ n, pgsN l n = 0 → ∀ i, i < n → pgErr l i = 0
  | 0, _, i, hi => by omega
  | n + 1, h, i, hi => by
    rw [pgsN_succ] at h
    split at h
    · rename_i h0
      by_cases e : i = n
      · subst e; exact h
      · exact pgsN_all l n h0 i (by omega)
    · rename_i h0; exact absurd h h0
theorem pages_good {l : List Int} (h : pgsN l l.length = 0) : (∀ x, x ∈ l → 0 ≤ x) ∧ l.Nodup := by
  have ha := pgsN_all l _ h
  constructor
  · intro x hx
    obtain ⟨i, hi, rfl⟩ := List.getElem_of_mem hx
    have := ha i hi
    unfold pgErr at this
    rw [getD_lt hi] at this
    split at this
    · cases this
    · omega
  · have go : ∀ i, i ≤ l.length → (l.take i).Nodup := by
      intro i
      induction i with
      | zero => intro _; simp
      | succ i ih =>
        intro hi
        have hlt : i < l.length := by omega
        rw [List.take_succ_eq_append_getElem hlt, List.nodup_append]
        refine ⟨ih (by omega), by simp, fun a ha' b hb => ?_⟩
        rw [List.mem_singleton] at hb
        subst hb
        intro e
        have := ha i hlt
        unfold pgErr at this
        rw [getD_lt hlt] at this
        split at this
        · cases this
        · rw [← e, if_pos ha'] at this; cases this
    have := go l.length (Nat.le_refl _)
    rwa [List.take_length] at this
theorem shsErr_of {l : List Sh} (hl : l.length ≤ 20) (h : ∀ s, s ∈ l → shErr s = 0) : shsErr l = 0 := by
  unfold shsErr
  rw [if_neg (by omega)]
  clear hl
  induction l with
  | nil => rfl
  | cons s l ih =>
    simp only [List.map_cons, firstErr]
    rw [h s (.head _), if_pos rfl]
    exact ih fun x hx => h x (.tail _ hx)
theorem keep_right (l : List Sh) : ∀ s, s ∈ keep l → shErr s = 0 := fun s hs => of_decide_eq_true (List.mem_filter.1 hs).2
theorem factsE_good {l : List Sh} {d : Dc} (h : factsE l d = 0) : d.pages ≠ [] ∧ d.pages.Nodup ∧ ∀ n, n ∈ d.pages → 0 ≤ n ∧ n < l.length := by
  have h1 : docErr d = 0 := firstErr_zero h _ (.head _)
  have h2 : (if (d.pages.any fun n => decide ((l.length : Int) ≤ n)) = true then (10 : Int) else 0) = 0 := firstErr_zero h _ (.tail _ (.head _))
  have h3 : docHead d = 0 := firstErr_zero h1 _ (.head _)
  have h4 : pgsN d.pages d.pages.length = 0 := firstErr_zero h1 _ (.tail _ (.head _))
  have h5 : (if d.pages = [] then (9 : Int) else 0) = 0 := firstErr_zero h3 _ (.tail _ (.head _))
  obtain ⟨g1, g2⟩ := pages_good h4
  refine ⟨fun e => absurd h5 (by rw [if_pos e]; decide), g2, fun n hn => ⟨g1 n hn, ?_⟩⟩
  split at h2
  · cases h2
  · rename_i h6
    rw [Bool.not_eq_true, List.any_eq_false] at h6
    have := h6 n hn
    simpa using this
theorem find_none_take {α : Type} {q : α → Bool} {z : α} {l : List α} {i : Nat} (hi : i ≤ l.length) (h : ∀ j, j < i → q (l.getD j z) = false) : l.find? q = (l.drop i).find? q := by
  conv => lhs; rw [← List.take_append_drop i l]
  rw [List.find?_append]
  have : (l.take i).find? q = none := by
    rw [List.find?_eq_none]
    intro x hx
    obtain ⟨j, hj, rfl⟩ := List.getElem_of_mem hx
    have hj' : j < i := by simp at hj; omega
    have := h j hj'
    rw [getD_lt (by simp at hj; omega)] at this
    simp [this]
  rw [this]; rfl
theorem find_at {α : Type} {q : α → Bool} {z : α} {l : List α} {i : Nat} (hi : i < l.length) (h : ∀ j, j < i → q (l.getD j z) = false) (h1 : q (l.getD i z) = true) : l.find? q = some (l.getD i z) := by
  rw [find_none_take (z := z) (Nat.le_of_lt hi) h, List.drop_eq_getElem_cons hi, List.find?_cons]
  rw [getD_lt hi] at h1 ⊢
  rw [h1]
theorem find_no {α : Type} {q : α → Bool} {z : α} {l : List α} (h : ∀ j, j < l.length → q (l.getD j z) = false) : l.find? q = none := by
  rw [find_none_take (z := z) (Nat.le_refl _) h, List.drop_length]; rfl
end Go.Fv.S

/- Facts. -/
namespace Go.Fv.S
open Go Go.Proofs
set_option linter.unusedSimpArgs false
set_option linter.unusedVariables false
set_option linter.unnecessarySimpa false
set_option maxRecDepth 8000

theorem factBad_ok (l : List Sh) (n : Int) : FnOk Tryd.prog 137 [.int .i64 n, .cell [.ro (shs l)]] (.bool (decide ((l.length : Int) ≤ n))) [] := by
  refine FnOk.of_vc Tryd.func137 rfl (by decide) (by simp [Tryd.f137]) [.tmp 3] rfl fun w0 T0 _ => ?_
  simp only [Tryd.f137, argEnv]
  (repeat' first | with_reducible (first | refine Asm.intro fun _ => ?_ | refine Chk.g ?_ | refine AnyI.i64 fun _ _ => ?_ | refine LetW.g ?_ | refine LetW.h ?_ | refine Ite.t fun _ => ?_ | refine Ite.f fun _ => ?_ | refine Ite.decide (fun _ => ?_) fun _ => ?_ | refine Ite.bool (fun _ => ?_) fun _ => ?_ | refine And.intro ?_ ?_) | omega | simp (maxSteps := 1000000) only [go_sem, reduceCtorEq, Nat.reduceLT, Nat.reduceLeDiff, reduceIte, ↓reduceIte, Nat.reduceEqDiff, Nat.reduceAdd, Nat.reduceMul, Nat.reduceSub, Int.reduceLE, Int.reduceLT, Int.reduceNeg, Int.reduceToNat, List.length_map])
  refine Ret.auto 0 ?_ rfl ?_ <;> simp only [go_sem, reduceCtorEq, reduceIte, Nat.reduceEqDiff, Nat.reduceLT, Nat.reduceLeDiff, Int.natCast_succ, Post]
theorem lawFactBad_ok (l : List Sh) (n : Int) : FnOk Tryd.prog 64 [.int .i64 n, .cell [.ro (shs l)]] (.bool (decide ((l.length : Int) ≤ n))) [] := by
  refine FnOk.of_vc Tryd.func64 rfl (by decide) (by simp [Tryd.f64]) [.tmp 3] rfl fun w0 T0 _ => ?_
  simp only [Tryd.f64, argEnv]
  (repeat' first | with_reducible (first | refine Asm.intro fun _ => ?_ | refine Chk.g ?_ | refine AnyI.i64 fun _ _ => ?_ | refine LetW.g ?_ | refine LetW.h ?_ | refine Ite.t fun _ => ?_ | refine Ite.f fun _ => ?_ | refine Ite.decide (fun _ => ?_) fun _ => ?_ | refine Ite.bool (fun _ => ?_) fun _ => ?_ | refine And.intro ?_ ?_) | omega | simp (maxSteps := 1000000) only [go_sem, reduceCtorEq, Nat.reduceLT, Nat.reduceLeDiff, reduceIte, ↓reduceIte, Nat.reduceEqDiff, Nat.reduceAdd, Nat.reduceMul, Nat.reduceSub, Int.reduceLE, Int.reduceLT, Int.reduceNeg, Int.reduceToNat, List.length_map])
  refine Ret.auto 0 ?_ rfl ?_ <;> simp only [go_sem, reduceCtorEq, reduceIte, Nat.reduceEqDiff, Nat.reduceLT, Nat.reduceLeDiff, Int.natCast_succ, Post]

set_option maxHeartbeats 8000000 in
theorem facts_ok (l : List Sh) (d : Dc) (hl : l.length ≤ 20) (hr : ∀ s, s ∈ l → shErr s = 0) : FnOk Tryd.prog 63 [.ro (shs l), .agg d.av] (.tup [.own 0, .int .i64 (factsE l d)]) [(0, .row 105 (fas (if factsE l d = 0 then factsL l d else [])))] := by
  have k1 := checkSheets_ok l
  rw [shsErr_of hl hr] at k1
  have k2 := checkDocs_ok [d]
  have hE : factsE l d = firstErr [docErr d, if (d.pages.any fun n => decide ((l.length : Int) ≤ n)) = true then 10 else 0] := rfl
  have hg := factsE_good (l := l) (d := d)
  rw [show docsErr [d] = docErr d by unfold docsErr; simp only [List.map_cons, List.map_nil, firstErr]; split <;> simp_all] at k2
  haveI c1 : CapsOk [.cell [.ro (shs l)]] := ⟨rfl⟩
  have k3 := contFuncI_ok d.pages 137 [.cell [.ro (shs l)]] (fun n => decide ((l.length : Int) ≤ n)) fun n hn => FnFr.of_ok (factBad_ok l n) rfl rfl
  unfold factsL
  unfold dcs at k2
  rw [List.map_cons, List.map_nil] at k2
  unfold Dc.av at *
  obtain ⟨kd, ps⟩ := d
  dsimp only at *
  generalize docErr ⟨kd, ps⟩ = e1 at *
  generalize (ps.any fun n => decide ((l.length : Int) ≤ n)) = bad at *
  generalize factsE l ⟨kd, ps⟩ = E at *
  refine FnOk.of_vc Tryd.func63 rfl (by decide) (by simp [Tryd.f63]) [.tmp 4, .tmp 5] rfl fun w0 T0 _ => ?_
  simp only [Tryd.f63, argEnv]
  (repeat' first | with_reducible (first | refine Asm.intro fun _ => ?_ | refine Chk.g ?_ | refine AnyI.i64 fun _ _ => ?_ | refine LetW.g ?_ | refine LetW.h ?_ | refine Ite.t fun _ => ?_ | refine Ite.f fun _ => ?_ | refine Ite.decide (fun _ => ?_) fun _ => ?_ | refine Ite.bool (fun _ => ?_) fun _ => ?_ | refine And.intro ?_ ?_) | omega | simp (maxSteps := 1000000) only [go_sem, reduceCtorEq, Nat.reduceLT, Nat.reduceLeDiff, reduceIte, ↓reduceIte, Nat.reduceEqDiff, Nat.reduceAdd, Nat.reduceMul, Nat.reduceSub, Int.reduceLE, Int.reduceLT, Int.reduceNeg, Int.reduceToNat])
  refine VcCall.fr (FnFr.of_ok (k1) rfl rfl) (by simp only [noIdR_ok, argOkL, argOk, allOk, argOkN, List.drop_zero, lk, reduceIte, reduceCtorEq, Nat.reduceEqDiff, Option.some.injEq, Item.row.injEq, Item.box.injEq, AV.ro.injEq, exists_eq_left, exists_and_left, exists_eq_left', exists_eq_right, and_assoc, and_true, true_and, List.cons.injEq, exists_eq', exists_eq]) 0 rfl (by simp [rowsB]) ?_
  (repeat' first | with_reducible (first | refine Asm.intro fun _ => ?_ | refine Chk.g ?_ | refine AnyI.i64 fun _ _ => ?_ | refine LetW.g ?_ | refine LetW.h ?_ | refine Ite.t fun _ => ?_ | refine Ite.f fun _ => ?_ | refine Ite.decide (fun _ => ?_) fun _ => ?_ | refine Ite.bool (fun _ => ?_) fun _ => ?_ | refine And.intro ?_ ?_) | omega | simp (maxSteps := 1000000) only [go_sem, reduceCtorEq, Nat.reduceLT, Nat.reduceLeDiff, reduceIte, ↓reduceIte, Nat.reduceEqDiff, Nat.reduceAdd, Nat.reduceMul, Nat.reduceSub, Int.reduceLE, Int.reduceLT, Int.reduceNeg, Int.reduceToNat])
  refine VcCall.fr (FnFr.of_ok (k2) rfl rfl) (by simp only [noIdR_ok, argOkL, argOk, allOk, argOkN, List.drop_zero, lk, reduceIte, reduceCtorEq, Nat.reduceEqDiff, Option.some.injEq, Item.row.injEq, Item.box.injEq, AV.ro.injEq, exists_eq_left, exists_and_left, exists_eq_left', exists_eq_right, and_assoc, and_true, true_and, List.cons.injEq, exists_eq', exists_eq]) 0 rfl (by simp [rowsB]) ?_
  by_cases h1 : e1 = 0
  · subst h1
    (repeat' first | with_reducible (first | refine Asm.intro fun _ => ?_ | refine Chk.g ?_ | refine AnyI.i64 fun _ _ => ?_ | refine LetW.g ?_ | refine LetW.h ?_ | refine Ite.t fun _ => ?_ | refine Ite.f fun _ => ?_ | refine Ite.decide (fun _ => ?_) fun _ => ?_ | refine Ite.bool (fun _ => ?_) fun _ => ?_ | refine And.intro ?_ ?_) | omega | simp (maxSteps := 1000000) only [go_sem, reduceCtorEq, Nat.reduceLT, Nat.reduceLeDiff, reduceIte, ↓reduceIte, Nat.reduceEqDiff, Nat.reduceAdd, Nat.reduceMul, Nat.reduceSub, Int.reduceLE, Int.reduceLT, Int.reduceNeg, Int.reduceToNat])
    refine VcCall.fr (FnFr.of_ok (k3) rfl rfl) (by simp only [noIdR_ok, argOkL, argOk, allOk, argOkN, List.drop_zero, lk, reduceIte, reduceCtorEq, Nat.reduceEqDiff, Option.some.injEq, Item.row.injEq, Item.box.injEq, AV.ro.injEq, exists_eq_left, exists_and_left, exists_eq_left', exists_eq_right, and_assoc, and_true, true_and, List.cons.injEq, exists_eq', exists_eq]) 0 rfl (by simp [rowsB]) ?_
    cases bad with
    | true =>
      have : E = 10 := by rw [hE]; simp [firstErr]
      subst this
      rw [if_neg (by decide)]
      (repeat' first | with_reducible (first | refine Asm.intro fun _ => ?_ | refine Chk.g ?_ | refine AnyI.i64 fun _ _ => ?_ | refine LetW.g ?_ | refine LetW.h ?_ | refine Ite.t fun _ => ?_ | refine Ite.f fun _ => ?_ | refine Ite.decide (fun _ => ?_) fun _ => ?_ | refine Ite.bool (fun _ => ?_) fun _ => ?_ | refine And.intro ?_ ?_) | omega | simp (maxSteps := 1000000) only [go_sem, reduceCtorEq, Nat.reduceLT, Nat.reduceLeDiff, reduceIte, ↓reduceIte, Nat.reduceEqDiff, Nat.reduceAdd, Nat.reduceMul, Nat.reduceSub, Int.reduceLE, Int.reduceLT, Int.reduceNeg, Int.reduceToNat])
      refine Ret.auto 1 ?_ rfl ?_ <;> simp only [go_sem, reduceCtorEq, reduceIte, Nat.reduceEqDiff, Nat.reduceLT, Nat.reduceLeDiff, Int.natCast_succ, Post, List.map_nil]
    | false =>
      have : E = 0 := by rw [hE]; simp [firstErr]
      subst this
      obtain ⟨hne, hnd, hin⟩ := hg rfl
      rw [if_pos rfl]
      have hlen : ps.length ≤ 20 := Nat.le_trans (nodup_len l.length ps hnd fun x hx => hin x hx) hl
      have ki := itoaSmall_ok ps.length (by omega)
      (repeat' first | with_reducible (first | refine Asm.intro fun _ => ?_ | refine Chk.g ?_ | refine AnyI.i64 fun _ _ => ?_ | refine LetW.g ?_ | refine LetW.h ?_ | refine Ite.t fun _ => ?_ | refine Ite.f fun _ => ?_ | refine Ite.decide (fun _ => ?_) fun _ => ?_ | refine Ite.bool (fun _ => ?_) fun _ => ?_ | refine And.intro ?_ ?_) | omega | simp (maxSteps := 1000000) only [go_sem, reduceCtorEq, Nat.reduceLT, Nat.reduceLeDiff, reduceIte, ↓reduceIte, Nat.reduceEqDiff, Nat.reduceAdd, Nat.reduceMul, Nat.reduceSub, Int.reduceLE, Int.reduceLT, Int.reduceNeg, Int.reduceToNat])
      refine VcLoop.intro (fun i : Nat => ⟨95, [(31, .int .i64 i), (30, .int .i64 ps.length), (29, .ro (.ints .i64 ps)), (8, .own 2), (3, .ptr 1 0), (2, .ptr 0 0)], [(2, .row 105 (fas [])), (1, .box 67 [.str kd, .ro (.ints .i64 ps)]), (0, .box 22 [.ro (shs l)])], 3⟩) (fun i => i ≤ ps.length ∧ ∀ j, j < i → decide (codesAt l (ps.getD j 0) ≠ []) = false) (fun i => ps.length - i) 0 ?_ ⟨Nat.zero_le _, fun j hj => by omega⟩ fun i hI => ?_
      · refine Ent.auto0 rfl ?_ ?_ <;> simp only [go_sem, reduceCtorEq, reduceIte, Nat.reduceEqDiff, Nat.reduceLT, Nat.reduceLeDiff, Int.natCast_succ, List.map_nil]
      obtain ⟨hi, hI⟩ := hI
      by_cases hlt : i < ps.length
      case' pos =>
        have hn := hin (ps.getD i 0) (by rw [getD_lt hlt]; exact List.getElem_mem hlt)
        have hel := sh_elem l (i := (ps.getD i 0).toNat) (by omega)
        have hca : codesAt l (ps.getD i 0) = (l.getD (ps.getD i 0).toNat Sh.zero).codes := rfl
        have hfa := find_at (q := fun n => decide (codesAt l n ≠ [])) (z := 0) hlt hI
        generalize (l.getD (ps.getD i 0).toNat Sh.zero).codes = cs at *
        by_cases hcs : cs = []
        case' pos =>
          rw [hcs] at hca hel
          (repeat' first | with_reducible (first | refine Asm.intro fun _ => ?_ | refine Chk.g ?_ | refine AnyI.i64 fun _ _ => ?_ | refine LetW.g ?_ | refine LetW.h ?_ | refine Ite.t fun _ => ?_ | refine Ite.f fun _ => ?_ | refine Ite.decide (fun _ => ?_) fun _ => ?_ | refine Ite.bool (fun _ => ?_) fun _ => ?_ | refine And.intro ?_ ?_) | omega | simp (maxSteps := 1000000) only [go_sem, reduceCtorEq, Nat.reduceLT, Nat.reduceLeDiff, reduceIte, ↓reduceIte, Nat.reduceEqDiff, Nat.reduceAdd, Nat.reduceMul, Nat.reduceSub, Int.reduceLE, Int.reduceLT, Int.reduceNeg, Int.reduceToNat, elemA, hel, List.length_map])
          refine ⟨i + 1, Ent.auto0 rfl ?_ ?_, ⟨by omega, fun j hj => ?_⟩, by omega⟩
          · simp only [go_sem, reduceCtorEq, reduceIte, Nat.reduceEqDiff, Nat.reduceLT, Nat.reduceLeDiff, Int.natCast_succ, List.map_nil]
          · simp only [go_sem, reduceCtorEq, reduceIte, Nat.reduceEqDiff, Nat.reduceLT, Nat.reduceLeDiff, Int.natCast_succ, List.map_nil]
          · by_cases e : j = i
            · subst e; exact hca
            · simpa using hI j (by omega)
        case' neg =>
          have hc0 : 0 < cs.length := List.length_pos_iff.2 hcs
          have hc1 : (0 : Int) < cs.length := by omega
          have hF : codeF l ps = [⟨[99, 111, 100, 101], cs.getD 0 []⟩] := by
            unfold codeF
            rw [hfa (by rw [hca]; simpa using hcs)]
            show [Fa.mk _ ((codesAt l (ps.getD i 0)).getD 0 [])] = _
            rw [hca]
      case' neg =>
        have hF : codeF l ps = [] := by
          unfold codeF
          rw [find_no (z := 0) fun j hj => hI j (by omega)]
        clear hi hI
        have hc1 : True := trivial
        have hel : True := trivial
      all_goals
        have hn0 := hin (ps.getD 0 0) (by rw [getD_lt (List.length_pos_iff.2 hne)]; exact List.getElem_mem _)
        have hp0 : 0 < ps.length := List.length_pos_iff.2 hne
        have hp1 : (0 : Int) < ps.length := by omega
        have hel0 := sh_elem l (i := (ps.getD 0 0).toNat) (by omega)
        have htx := shErr_text (hr (l.getD (ps.getD 0 0).toNat Sh.zero) (by rw [getD_lt (by omega)]; exact List.getElem_mem _))
        have kw := wordsOfS_ok (l.getD (ps.getD 0 0).toNat Sh.zero).text htx
        have hwl : (textHas (l.getD (ps.getD 0 0).toNat Sh.zero).text).length ≤ 2097153 := by
          have h1 := hasL_len (toks (l.getD (ps.getD 0 0).toNat Sh.zero).text [] [])
          have h2 := toks_len _ (l.getD (ps.getD 0 0).toNat Sh.zero).text [] [] (Nat.le_refl _)
          simp only [List.length_nil] at h2
          exact Nat.le_trans h1 (by omega)
        generalize textHas (l.getD (ps.getD 0 0).toNat Sh.zero).text = ws at *
        generalize (l.getD (ps.getD 0 0).toNat Sh.zero).text = tx at *
        by_cases hkd : kd = []
        case' pos =>
          have hK : kindFa kd = [] := if_pos hkd
          (repeat' first | with_reducible (first | refine Asm.intro fun _ => ?_ | refine Chk.g ?_ | refine AnyI.i64 fun _ _ => ?_ | refine LetW.g ?_ | refine LetW.h ?_ | refine Ite.t fun _ => ?_ | refine Ite.f fun _ => ?_ | refine Ite.decide (fun _ => ?_) fun _ => ?_ | refine Ite.bool (fun _ => ?_) fun _ => ?_ | refine And.intro ?_ ?_) | omega | simp (maxSteps := 1000000) only [go_sem, reduceCtorEq, Nat.reduceLT, Nat.reduceLeDiff, reduceIte, ↓reduceIte, Nat.reduceEqDiff, Nat.reduceAdd, Nat.reduceMul, Nat.reduceSub, Int.reduceLE, Int.reduceLT, Int.reduceNeg, Int.reduceToNat, elemA, hel, List.length_map, hc1, hkd])
        case' neg =>
          have hK : kindFa kd = [⟨[107, 105, 110, 100], kd⟩] := if_neg hkd
          (repeat' first | with_reducible (first | refine Asm.intro fun _ => ?_ | refine Chk.g ?_ | refine AnyI.i64 fun _ _ => ?_ | refine LetW.g ?_ | refine LetW.h ?_ | refine Ite.t fun _ => ?_ | refine Ite.f fun _ => ?_ | refine Ite.decide (fun _ => ?_) fun _ => ?_ | refine Ite.bool (fun _ => ?_) fun _ => ?_ | refine And.intro ?_ ?_) | omega | simp (maxSteps := 1000000) only [go_sem, reduceCtorEq, Nat.reduceLT, Nat.reduceLeDiff, reduceIte, ↓reduceIte, Nat.reduceEqDiff, Nat.reduceAdd, Nat.reduceMul, Nat.reduceSub, Int.reduceLE, Int.reduceLT, Int.reduceNeg, Int.reduceToNat, elemA, hel, List.length_map, hc1, hkd])
      all_goals
        refine VcCall.fr (FnFr.of_ok (ki) rfl rfl) (by simp only [noIdR_ok, argOkL, argOk, allOk, argOkN, List.drop_zero, lk, reduceIte, reduceCtorEq, Nat.reduceEqDiff, Option.some.injEq, Item.row.injEq, Item.box.injEq, AV.ro.injEq, exists_eq_left, exists_and_left, exists_eq_left', exists_eq_right, and_assoc, and_true, true_and, List.cons.injEq, exists_eq', exists_eq]) 0 rfl (by simp [rowsB]) ?_
        (repeat' first | with_reducible (first | refine Asm.intro fun _ => ?_ | refine Chk.g ?_ | refine AnyI.i64 fun _ _ => ?_ | refine LetW.g ?_ | refine LetW.h ?_ | refine Ite.t fun _ => ?_ | refine Ite.f fun _ => ?_ | refine Ite.decide (fun _ => ?_) fun _ => ?_ | refine Ite.bool (fun _ => ?_) fun _ => ?_ | refine And.intro ?_ ?_) | omega | simp (maxSteps := 1000000) only [go_sem, reduceCtorEq, Nat.reduceLT, Nat.reduceLeDiff, reduceIte, ↓reduceIte, Nat.reduceEqDiff, Nat.reduceAdd, Nat.reduceMul, Nat.reduceSub, Int.reduceLE, Int.reduceLT, Int.reduceNeg, Int.reduceToNat])
        refine VcDraw.lex [] [] (by kernel_rfl) (by kernel_rfl) ?_
        (repeat' first | with_reducible (first | refine Asm.intro fun _ => ?_ | refine Chk.g ?_ | refine AnyI.i64 fun _ _ => ?_ | refine LetW.g ?_ | refine LetW.h ?_ | refine Ite.t fun _ => ?_ | refine Ite.f fun _ => ?_ | refine Ite.decide (fun _ => ?_) fun _ => ?_ | refine Ite.bool (fun _ => ?_) fun _ => ?_ | refine And.intro ?_ ?_) | omega | simp (maxSteps := 1000000) only [go_sem, reduceCtorEq, Nat.reduceLT, Nat.reduceLeDiff, reduceIte, ↓reduceIte, Nat.reduceEqDiff, Nat.reduceAdd, Nat.reduceMul, Nat.reduceSub, Int.reduceLE, Int.reduceLT, Int.reduceNeg, Int.reduceToNat, hp1, elemA, hel0, List.length_map])
        refine QV.intro (.ro (.strs ws)) ?_ ?_
        · (repeat' first | with_reducible (first | refine Asm.intro fun _ => ?_ | refine Chk.g ?_ | refine AnyI.i64 fun _ _ => ?_ | refine LetW.g ?_ | refine LetW.h ?_ | refine Ite.t fun _ => ?_ | refine Ite.f fun _ => ?_ | refine Ite.decide (fun _ => ?_) fun _ => ?_ | refine Ite.bool (fun _ => ?_) fun _ => ?_ | refine And.intro ?_ ?_) | omega | simp (maxSteps := 1000000) only [go_sem, reduceCtorEq, Nat.reduceLT, Nat.reduceLeDiff, reduceIte, ↓reduceIte, Nat.reduceEqDiff, Nat.reduceAdd, Nat.reduceMul, Nat.reduceSub, Int.reduceLE, Int.reduceLT, Int.reduceNeg, Int.reduceToNat])
          refine VcCall.ro (.ro (.strs ws)) (FnFr.of_ok kw rfl (by simp [noRoRows, noRoItem, noRoRow, noRoL, noRo])) (by simp only [noIdR_ok, argOkL, argOk, allOk, argOkN, List.drop_zero, lk, reduceIte, reduceCtorEq, Nat.reduceEqDiff, Option.some.injEq, Item.row.injEq, Item.box.injEq, AV.ro.injEq, exists_eq_left, exists_and_left, exists_eq_left', exists_eq_right, and_assoc, and_true, true_and, List.cons.injEq, exists_eq', exists_eq]) (by simp [outOk, argOkL, allOk, argOk, argOkN, lk, noIdR_ok]) rfl ?_
          (repeat' first | with_reducible (first | refine Asm.intro fun _ => ?_ | refine Chk.g ?_ | refine AnyI.i64 fun _ _ => ?_ | refine LetW.g ?_ | refine LetW.h ?_ | refine Ite.t fun _ => ?_ | refine Ite.f fun _ => ?_ | refine Ite.decide (fun _ => ?_) fun _ => ?_ | refine Ite.bool (fun _ => ?_) fun _ => ?_ | refine And.intro ?_ ?_) | omega | simp (maxSteps := 1000000) only [go_sem, reduceCtorEq, Nat.reduceLT, Nat.reduceLeDiff, reduceIte, ↓reduceIte, Nat.reduceEqDiff, Nat.reduceAdd, Nat.reduceMul, Nat.reduceSub, Int.reduceLE, Int.reduceLT, Int.reduceNeg, Int.reduceToNat])
        (repeat' first | with_reducible (first | refine Asm.intro fun _ => ?_ | refine Chk.g ?_ | refine AnyI.i64 fun _ _ => ?_ | refine LetW.g ?_ | refine LetW.h ?_ | refine Ite.t fun _ => ?_ | refine Ite.f fun _ => ?_ | refine Ite.decide (fun _ => ?_) fun _ => ?_ | refine Ite.bool (fun _ => ?_) fun _ => ?_ | refine And.intro ?_ ?_) | omega | simp (maxSteps := 1000000) only [go_sem, reduceCtorEq, Nat.reduceLT, Nat.reduceLeDiff, reduceIte, ↓reduceIte, Nat.reduceEqDiff, Nat.reduceAdd, Nat.reduceMul, Nat.reduceSub, Int.reduceLE, Int.reduceLT, Int.reduceNeg, Int.reduceToNat])
        refine VcLoop.intro (fun j : Nat => ⟨95, [(81, .int .i64 j), (80, .int .i64 ws.length), (79, .ro (.strs ws)), (8, .own 0)], [(0, .row 105 (fas (codeF l ps ++ kindFa kd ++ [⟨[112, 97, 103, 101, 115], Lib.decDigits ps.length⟩])))], 1⟩) (fun j => j ≤ ws.length ∧ ∀ k, k < j → decide (5 ≤ (ws.getD k []).length) = false) (fun j => ws.length - j) 0 ?_ ⟨Nat.zero_le _, fun k hk => by omega⟩ fun j hJ => ?_
        · refine Ent.auto0 rfl ?_ ?_ <;> simp only [go_sem, reduceCtorEq, reduceIte, Nat.reduceEqDiff, Nat.reduceLT, Nat.reduceLeDiff, Int.natCast_succ, hF, hK]
          all_goals simp [Fa.av]
        obtain ⟨hj, hJ⟩ := hJ
        have hol : (codeF l ps ++ kindFa kd ++ [(⟨[112, 97, 103, 101, 115], Lib.decDigits ps.length⟩ : Fa)]).length ≤ 3 := by rw [hF, hK]; simp
        generalize codeF l ps ++ kindFa kd ++ [⟨[112, 97, 103, 101, 115], Lib.decDigits ps.length⟩] = o at *
        by_cases hjl : j < ws.length
        · have hfa := find_at (q := fun w => decide (5 ≤ w.length)) (z := []) hjl hJ
          by_cases h5 : 5 ≤ (ws.getD j []).length
          · have hW : wordF ws = [⟨[119, 111, 114, 100], ws.getD j []⟩] := by
              unfold wordF
              rw [hfa (by simpa using h5)]
            have h5' : (5 : Int) ≤ (ws.getD j []).length := by omega
            (repeat' first | with_reducible (first | refine Asm.intro fun _ => ?_ | refine Chk.g ?_ | refine AnyI.i64 fun _ _ => ?_ | refine LetW.g ?_ | refine LetW.h ?_ | refine Ite.t fun _ => ?_ | refine Ite.f fun _ => ?_ | refine Ite.decide (fun _ => ?_) fun _ => ?_ | refine Ite.bool (fun _ => ?_) fun _ => ?_ | refine And.intro ?_ ?_) | omega | simp (maxSteps := 1000000) only [go_sem, reduceCtorEq, Nat.reduceLT, Nat.reduceLeDiff, reduceIte, ↓reduceIte, Nat.reduceEqDiff, Nat.reduceAdd, Nat.reduceMul, Nat.reduceSub, Int.reduceLE, Int.reduceLT, Int.reduceNeg, Int.reduceToNat, h5'])
            refine Ret.auto 1 ?_ rfl ?_ <;> simp only [go_sem, reduceCtorEq, reduceIte, Nat.reduceEqDiff, Nat.reduceLT, Nat.reduceLeDiff, Int.natCast_succ, Post, hW, List.map_append, List.map_cons, List.map_nil]
            all_goals rfl
          · have h5' : ¬ (5 : Int) ≤ (ws.getD j []).length := by omega
            (repeat' first | with_reducible (first | refine Asm.intro fun _ => ?_ | refine Chk.g ?_ | refine AnyI.i64 fun _ _ => ?_ | refine LetW.g ?_ | refine LetW.h ?_ | refine Ite.t fun _ => ?_ | refine Ite.f fun _ => ?_ | refine Ite.decide (fun _ => ?_) fun _ => ?_ | refine Ite.bool (fun _ => ?_) fun _ => ?_ | refine And.intro ?_ ?_) | omega | simp (maxSteps := 1000000) only [go_sem, reduceCtorEq, Nat.reduceLT, Nat.reduceLeDiff, reduceIte, ↓reduceIte, Nat.reduceEqDiff, Nat.reduceAdd, Nat.reduceMul, Nat.reduceSub, Int.reduceLE, Int.reduceLT, Int.reduceNeg, Int.reduceToNat, h5'])
            refine ⟨j + 1, Ent.auto0 rfl ?_ ?_, ⟨by omega, fun k hk => ?_⟩, by omega⟩
            · simp only [go_sem, reduceCtorEq, reduceIte, Nat.reduceEqDiff, Nat.reduceLT, Nat.reduceLeDiff, Int.natCast_succ]
            · simp only [go_sem, reduceCtorEq, reduceIte, Nat.reduceEqDiff, Nat.reduceLT, Nat.reduceLeDiff, Int.natCast_succ]
            · by_cases e : k = j
              · subst e; exact h5
              · exact of_decide_eq_false (hJ k (by omega))
        · have hW : wordF ws = [] := by
            unfold wordF
            rw [find_no (z := []) fun k hk => hJ k (by omega)]
          (repeat' first | with_reducible (first | refine Asm.intro fun _ => ?_ | refine Chk.g ?_ | refine AnyI.i64 fun _ _ => ?_ | refine LetW.g ?_ | refine LetW.h ?_ | refine Ite.t fun _ => ?_ | refine Ite.f fun _ => ?_ | refine Ite.decide (fun _ => ?_) fun _ => ?_ | refine Ite.bool (fun _ => ?_) fun _ => ?_ | refine And.intro ?_ ?_) | omega | simp (maxSteps := 1000000) only [go_sem, reduceCtorEq, Nat.reduceLT, Nat.reduceLeDiff, reduceIte, ↓reduceIte, Nat.reduceEqDiff, Nat.reduceAdd, Nat.reduceMul, Nat.reduceSub, Int.reduceLE, Int.reduceLT, Int.reduceNeg, Int.reduceToNat])
          refine Ret.auto 1 ?_ rfl ?_ <;> simp only [go_sem, reduceCtorEq, reduceIte, Nat.reduceEqDiff, Nat.reduceLT, Nat.reduceLeDiff, Int.natCast_succ, Post, hW, List.append_nil]
  · have : E = e1 := by rw [hE, firstErr_two, if_neg h1]
    subst this
    rw [if_neg h1]
    (repeat' first | with_reducible (first | refine Asm.intro fun _ => ?_ | refine Chk.g ?_ | refine AnyI.i64 fun _ _ => ?_ | refine LetW.g ?_ | refine LetW.h ?_ | refine Ite.t fun _ => ?_ | refine Ite.f fun _ => ?_ | refine Ite.decide (fun _ => ?_) fun _ => ?_ | refine Ite.bool (fun _ => ?_) fun _ => ?_ | refine And.intro ?_ ?_) | omega | simp (maxSteps := 1000000) only [go_sem, reduceCtorEq, Nat.reduceLT, Nat.reduceLeDiff, reduceIte, ↓reduceIte, Nat.reduceEqDiff, Nat.reduceAdd, Nat.reduceMul, Nat.reduceSub, Int.reduceLE, Int.reduceLT, Int.reduceNeg, Int.reduceToNat, h1])
    refine Ret.auto 1 ?_ rfl ?_ <;> simp only [go_sem, reduceCtorEq, reduceIte, Nat.reduceEqDiff, Nat.reduceLT, Nat.reduceLeDiff, Int.natCast_succ, Post, List.map_nil]
end Go.Fv.S

/- The reference's facts. -/
namespace Go.Fv.S
open Go Go.Proofs
set_option linter.unusedSimpArgs false
set_option linter.unusedVariables false
set_option linter.unnecessarySimpa false
set_option maxRecDepth 8000

theorem find_words (l : List Tok) : (hasL l).find? (fun w => decide (5 ≤ w.length)) = (l.find? fun t => t.2 && decide (5 ≤ t.1.length)).map fun t => smallL t.1 := by
  unfold hasL
  induction l with
  | nil => rfl
  | cons t l ih =>
    obtain ⟨a, b⟩ := t
    cases b with
    | false => simpa using ih
    | true =>
      have hs : (smallL a).length = a.length := by simp [smallL]
      by_cases h : 5 ≤ a.length
      · simp [hs, h]
      · simp only [List.filter_cons, if_true, List.map_cons, List.find?_cons, hs, Bool.true_and]
        rw [decide_eq_false h]
        exact ih
set_option maxHeartbeats 8000000 in
theorem factsOf_ok (l : List Sh) (d : Dc) (hl : l.length ≤ 20) (hr : ∀ s, s ∈ l → shErr s = 0) (h0 : factsE l d = 0) : FnOk Tryd.prog 66 [.ro (shs l), .agg d.av] (.own 0) [(0, .row 105 (fas (factsL l d)))] := by
  obtain ⟨hne, hnd, hin⟩ := factsE_good h0
  clear h0
  unfold factsL
  unfold Dc.av at *
  obtain ⟨kd, ps⟩ := d
  dsimp only at *
  have hlen : ps.length ≤ 20 := Nat.le_trans (nodup_len l.length ps hnd fun x hx => hin x hx) hl
  have ki := itoaSmall_ok ps.length (by omega)
  refine FnOk.of_vc Tryd.func66 rfl (by decide) (by simp [Tryd.f66]) [.tmp 4] rfl fun w0 T0 _ => ?_
  simp only [Tryd.f66, argEnv]
  (repeat' first | with_reducible (first | refine Asm.intro fun _ => ?_ | refine Chk.g ?_ | refine AnyI.i64 fun _ _ => ?_ | refine LetW.g ?_ | refine LetW.h ?_ | refine Ite.t fun _ => ?_ | refine Ite.f fun _ => ?_ | refine Ite.decide (fun _ => ?_) fun _ => ?_ | refine Ite.bool (fun _ => ?_) fun _ => ?_ | refine And.intro ?_ ?_) | omega | simp (maxSteps := 1000000) only [go_sem, reduceCtorEq, Nat.reduceLT, Nat.reduceLeDiff, reduceIte, ↓reduceIte, Nat.reduceEqDiff, Nat.reduceAdd, Nat.reduceMul, Nat.reduceSub, Int.reduceLE, Int.reduceLT, Int.reduceNeg, Int.reduceToNat])
  refine VcLoop.intro (fun i : Nat => ⟨84, [(13, .int .i64 i), (12, .int .i64 ps.length), (11, .ro (.ints .i64 ps)), (5, .own 1), (3, .ptr 0 0), (0, .ro (shs l))], [(1, .row 105 (fas [])), (0, .box 67 [.str kd, .ro (.ints .i64 ps)])], 2⟩) (fun i => i ≤ ps.length ∧ ∀ j, j < i → decide (codesAt l (ps.getD j 0) ≠ []) = false) (fun i => ps.length - i) 0 ?_ ⟨Nat.zero_le _, fun j hj => by omega⟩ fun i hI => ?_
  · refine Ent.auto0 rfl ?_ ?_ <;> simp only [go_sem, reduceCtorEq, reduceIte, Nat.reduceEqDiff, Nat.reduceLT, Nat.reduceLeDiff, Int.natCast_succ, List.map_nil]
  obtain ⟨hi, hI⟩ := hI
  by_cases hlt : i < ps.length
  case' pos =>
    have hn := hin (ps.getD i 0) (by rw [getD_lt hlt]; exact List.getElem_mem hlt)
    have hel := sh_elem l (i := (ps.getD i 0).toNat) (by omega)
    have hca : codesAt l (ps.getD i 0) = (l.getD (ps.getD i 0).toNat Sh.zero).codes := rfl
    have hfa := find_at (q := fun n => decide (codesAt l n ≠ [])) (z := 0) hlt hI
    generalize (l.getD (ps.getD i 0).toNat Sh.zero).codes = cs at *
    by_cases hcs : cs = []
    case' pos =>
      rw [hcs] at hca hel
      (repeat' first | with_reducible (first | refine Asm.intro fun _ => ?_ | refine Chk.g ?_ | refine AnyI.i64 fun _ _ => ?_ | refine LetW.g ?_ | refine LetW.h ?_ | refine Ite.t fun _ => ?_ | refine Ite.f fun _ => ?_ | refine Ite.decide (fun _ => ?_) fun _ => ?_ | refine Ite.bool (fun _ => ?_) fun _ => ?_ | refine And.intro ?_ ?_) | omega | simp (maxSteps := 1000000) only [go_sem, reduceCtorEq, Nat.reduceLT, Nat.reduceLeDiff, reduceIte, ↓reduceIte, Nat.reduceEqDiff, Nat.reduceAdd, Nat.reduceMul, Nat.reduceSub, Int.reduceLE, Int.reduceLT, Int.reduceNeg, Int.reduceToNat, elemA, hel, List.length_map])
      refine ⟨i + 1, Ent.auto0 rfl ?_ ?_, ⟨by omega, fun j hj => ?_⟩, by omega⟩
      · simp only [go_sem, reduceCtorEq, reduceIte, Nat.reduceEqDiff, Nat.reduceLT, Nat.reduceLeDiff, Int.natCast_succ, List.map_nil]
      · simp only [go_sem, reduceCtorEq, reduceIte, Nat.reduceEqDiff, Nat.reduceLT, Nat.reduceLeDiff, Int.natCast_succ, List.map_nil]
      · by_cases e : j = i
        · subst e; exact hca
        · simpa using hI j (by omega)
    case' neg =>
      have hc0 : 0 < cs.length := List.length_pos_iff.2 hcs
      have hc1 : (0 : Int) < cs.length := by omega
      have hF : codeF l ps = [⟨[99, 111, 100, 101], cs.getD 0 []⟩] := by
        unfold codeF
        rw [hfa (by rw [hca]; simpa using hcs)]
        show [Fa.mk _ ((codesAt l (ps.getD i 0)).getD 0 [])] = _
        rw [hca]
  case' neg =>
    have hF : codeF l ps = [] := by
      unfold codeF
      rw [find_no (z := 0) fun j hj => hI j (by omega)]
    clear hi hI
    have hc1 : True := trivial
    have hel : True := trivial
  all_goals
    have hn0 := hin (ps.getD 0 0) (by rw [getD_lt (List.length_pos_iff.2 hne)]; exact List.getElem_mem _)
    have hp0 : 0 < ps.length := List.length_pos_iff.2 hne
    have hp1 : (0 : Int) < ps.length := by omega
    have hel0 := sh_elem l (i := (ps.getD 0 0).toNat) (by omega)
    have htx := shErr_text (hr (l.getD (ps.getD 0 0).toNat Sh.zero) (by rw [getD_lt (by omega)]; exact List.getElem_mem _))
    have kw := refTokens_ok (l.getD (ps.getD 0 0).toNat Sh.zero).text htx
    have hwl := toks_len _ (l.getD (ps.getD 0 0).toNat Sh.zero).text [] [] (Nat.le_refl _)
    simp only [List.length_nil] at hwl
    unfold textHas
    generalize toks (l.getD (ps.getD 0 0).toNat Sh.zero).text [] [] = tk at *
    generalize (l.getD (ps.getD 0 0).toNat Sh.zero).text = tx at *
    by_cases hkd : kd = []
    case' pos =>
      have hK : kindFa kd = [] := if_pos hkd
      (repeat' first | with_reducible (first | refine Asm.intro fun _ => ?_ | refine Chk.g ?_ | refine AnyI.i64 fun _ _ => ?_ | refine LetW.g ?_ | refine LetW.h ?_ | refine Ite.t fun _ => ?_ | refine Ite.f fun _ => ?_ | refine Ite.decide (fun _ => ?_) fun _ => ?_ | refine Ite.bool (fun _ => ?_) fun _ => ?_ | refine And.intro ?_ ?_) | omega | simp (maxSteps := 1000000) only [go_sem, reduceCtorEq, Nat.reduceLT, Nat.reduceLeDiff, reduceIte, ↓reduceIte, Nat.reduceEqDiff, Nat.reduceAdd, Nat.reduceMul, Nat.reduceSub, Int.reduceLE, Int.reduceLT, Int.reduceNeg, Int.reduceToNat, elemA, hel, List.length_map, hc1, hkd])
    case' neg =>
      have hK : kindFa kd = [⟨[107, 105, 110, 100], kd⟩] := if_neg hkd
      (repeat' first | with_reducible (first | refine Asm.intro fun _ => ?_ | refine Chk.g ?_ | refine AnyI.i64 fun _ _ => ?_ | refine LetW.g ?_ | refine LetW.h ?_ | refine Ite.t fun _ => ?_ | refine Ite.f fun _ => ?_ | refine Ite.decide (fun _ => ?_) fun _ => ?_ | refine Ite.bool (fun _ => ?_) fun _ => ?_ | refine And.intro ?_ ?_) | omega | simp (maxSteps := 1000000) only [go_sem, reduceCtorEq, Nat.reduceLT, Nat.reduceLeDiff, reduceIte, ↓reduceIte, Nat.reduceEqDiff, Nat.reduceAdd, Nat.reduceMul, Nat.reduceSub, Int.reduceLE, Int.reduceLT, Int.reduceNeg, Int.reduceToNat, elemA, hel, List.length_map, hc1, hkd])
  all_goals
    refine VcCall.fr (FnFr.of_ok (ki) rfl rfl) (by simp only [noIdR_ok, argOkL, argOk, allOk, argOkN, List.drop_zero, lk, reduceIte, reduceCtorEq, Nat.reduceEqDiff, Option.some.injEq, Item.row.injEq, Item.box.injEq, AV.ro.injEq, exists_eq_left, exists_and_left, exists_eq_left', exists_eq_right, and_assoc, and_true, true_and, List.cons.injEq, exists_eq', exists_eq]) 0 rfl (by simp [rowsB]) ?_
    (repeat' first | with_reducible (first | refine Asm.intro fun _ => ?_ | refine Chk.g ?_ | refine AnyI.i64 fun _ _ => ?_ | refine LetW.g ?_ | refine LetW.h ?_ | refine Ite.t fun _ => ?_ | refine Ite.f fun _ => ?_ | refine Ite.decide (fun _ => ?_) fun _ => ?_ | refine Ite.bool (fun _ => ?_) fun _ => ?_ | refine And.intro ?_ ?_) | omega | simp (maxSteps := 1000000) only [go_sem, reduceCtorEq, Nat.reduceLT, Nat.reduceLeDiff, reduceIte, ↓reduceIte, Nat.reduceEqDiff, Nat.reduceAdd, Nat.reduceMul, Nat.reduceSub, Int.reduceLE, Int.reduceLT, Int.reduceNeg, Int.reduceToNat, hp1, elemA, hel0, List.length_map])
    refine VcCall.ro (.ro (tkR tk)) (FnFr.of_ok kw rfl (by simp [noRoRows, noRoItem, noRoRow, noRoL, noRo, tkR, tkAv])) (by simp only [noIdR_ok, argOkL, argOk, allOk, argOkN, List.drop_zero, lk, reduceIte, reduceCtorEq, Nat.reduceEqDiff, Option.some.injEq, Item.row.injEq, Item.box.injEq, AV.ro.injEq, exists_eq_left, exists_and_left, exists_eq_left', exists_eq_right, and_assoc, and_true, true_and, List.cons.injEq, exists_eq', exists_eq]) (by simp [outOk, argOkL, allOk, argOk, argOkN, lk, noIdR_ok, tkR]) rfl ?_
    (repeat' first | with_reducible (first | refine Asm.intro fun _ => ?_ | refine Chk.g ?_ | refine AnyI.i64 fun _ _ => ?_ | refine LetW.g ?_ | refine LetW.h ?_ | refine Ite.t fun _ => ?_ | refine Ite.f fun _ => ?_ | refine Ite.decide (fun _ => ?_) fun _ => ?_ | refine Ite.bool (fun _ => ?_) fun _ => ?_ | refine And.intro ?_ ?_) | omega | simp (maxSteps := 1000000) only [go_sem, reduceCtorEq, Nat.reduceLT, Nat.reduceLeDiff, reduceIte, ↓reduceIte, Nat.reduceEqDiff, Nat.reduceAdd, Nat.reduceMul, Nat.reduceSub, Int.reduceLE, Int.reduceLT, Int.reduceNeg, Int.reduceToNat, tkR, List.length_map])
    refine VcLoop.intro (fun j : Nat => ⟨84, [(63, .int .i64 j), (62, .int .i64 tk.length), (61, .ro (tkR tk)), (5, .own 0)], [(0, .row 105 (fas (codeF l ps ++ kindFa kd ++ [⟨[112, 97, 103, 101, 115], Lib.decDigits ps.length⟩])))], 1⟩) (fun j => j ≤ tk.length ∧ ∀ k, k < j → ((tk.getD k ([], false)).2 && decide (5 ≤ (tk.getD k ([], false)).1.length)) = false) (fun j => tk.length - j) 0 ?_ ⟨Nat.zero_le _, fun k hk => by omega⟩ fun j hJ => ?_
    · refine Ent.auto0 rfl ?_ ?_ <;> simp only [go_sem, reduceCtorEq, reduceIte, Nat.reduceEqDiff, Nat.reduceLT, Nat.reduceLeDiff, Int.natCast_succ, hF, hK, tkR]
      all_goals simp [Fa.av]
    obtain ⟨hj, hJ⟩ := hJ
    have hol : (codeF l ps ++ kindFa kd ++ [(⟨[112, 97, 103, 101, 115], Lib.decDigits ps.length⟩ : Fa)]).length ≤ 3 := by rw [hF, hK]; simp
    generalize codeF l ps ++ kindFa kd ++ [⟨[112, 97, 103, 101, 115], Lib.decDigits ps.length⟩] = o at *
    have hfw := find_words tk
    by_cases hjl : j < tk.length
    · have hfa := find_at (q := fun t : Tok => t.2 && decide (5 ≤ t.1.length)) (z := ([], false)) hjl hJ
      have hel2 := tk_elem tk hjl
      have hJ1 : ((tk.getD j ([], false)).2 && decide (5 ≤ (tk.getD j ([], false)).1.length)) = false → ∀ k, k < j + 1 → ((tk.getD k ([], false)).2 && decide (5 ≤ (tk.getD k ([], false)).1.length)) = false := fun h k hk => by
        by_cases e : k = j
        · rw [e]; exact h
        · exact hJ k (by omega)
      clear hJ
      generalize tk.getD j ([], false) = z at *
      obtain ⟨z1, z2⟩ := z
      dsimp only at *
      have ks := refSmall_ok z1
      cases z2 with
      | false =>
        (repeat' first | with_reducible (first | refine Asm.intro fun _ => ?_ | refine Chk.g ?_ | refine AnyI.i64 fun _ _ => ?_ | refine LetW.g ?_ | refine LetW.h ?_ | refine Ite.t fun _ => ?_ | refine Ite.f fun _ => ?_ | refine Ite.decide (fun _ => ?_) fun _ => ?_ | refine Ite.bool (fun _ => ?_) fun _ => ?_ | refine And.intro ?_ ?_) | omega | simp (maxSteps := 1000000) only [go_sem, reduceCtorEq, Nat.reduceLT, Nat.reduceLeDiff, reduceIte, ↓reduceIte, Nat.reduceEqDiff, Nat.reduceAdd, Nat.reduceMul, Nat.reduceSub, Int.reduceLE, Int.reduceLT, Int.reduceNeg, Int.reduceToNat, elemA, hel2, tkR, List.length_map])
        refine ⟨j + 1, Ent.auto0 rfl ?_ ?_, ⟨by omega, ?_⟩, by omega⟩
        · simp only [go_sem, reduceCtorEq, reduceIte, Nat.reduceEqDiff, Nat.reduceLT, Nat.reduceLeDiff, Int.natCast_succ, tkR]
        · simp only [go_sem, reduceCtorEq, reduceIte, Nat.reduceEqDiff, Nat.reduceLT, Nat.reduceLeDiff, Int.natCast_succ, tkR]
        · simpa using hJ1 rfl
      | true =>
        by_cases h5 : 5 ≤ z1.length
        · have hW : wordF (hasL tk) = [⟨[119, 111, 114, 100], smallL z1⟩] := by
            unfold wordF
            rw [hfw, hfa (by simpa using h5)]
            rfl
          have h5' : (5 : Int) ≤ z1.length := by omega
          (repeat' first | with_reducible (first | refine Asm.intro fun _ => ?_ | refine Chk.g ?_ | refine AnyI.i64 fun _ _ => ?_ | refine LetW.g ?_ | refine LetW.h ?_ | refine Ite.t fun _ => ?_ | refine Ite.f fun _ => ?_ | refine Ite.decide (fun _ => ?_) fun _ => ?_ | refine Ite.bool (fun _ => ?_) fun _ => ?_ | refine And.intro ?_ ?_) | omega | simp (maxSteps := 1000000) only [go_sem, reduceCtorEq, Nat.reduceLT, Nat.reduceLeDiff, reduceIte, ↓reduceIte, Nat.reduceEqDiff, Nat.reduceAdd, Nat.reduceMul, Nat.reduceSub, Int.reduceLE, Int.reduceLT, Int.reduceNeg, Int.reduceToNat, elemA, hel2, tkR, List.length_map, h5'])
          refine VcCall.fr (FnFr.of_ok (ks) rfl rfl) (by simp only [noIdR_ok, argOkL, argOk, allOk, argOkN, List.drop_zero, lk, reduceIte, reduceCtorEq, Nat.reduceEqDiff, Option.some.injEq, Item.row.injEq, Item.box.injEq, AV.ro.injEq, exists_eq_left, exists_and_left, exists_eq_left', exists_eq_right, and_assoc, and_true, true_and, List.cons.injEq, exists_eq', exists_eq]) 0 rfl (by simp [rowsB]) ?_
          (repeat' first | with_reducible (first | refine Asm.intro fun _ => ?_ | refine Chk.g ?_ | refine AnyI.i64 fun _ _ => ?_ | refine LetW.g ?_ | refine LetW.h ?_ | refine Ite.t fun _ => ?_ | refine Ite.f fun _ => ?_ | refine Ite.decide (fun _ => ?_) fun _ => ?_ | refine Ite.bool (fun _ => ?_) fun _ => ?_ | refine And.intro ?_ ?_) | omega | simp (maxSteps := 1000000) only [go_sem, reduceCtorEq, Nat.reduceLT, Nat.reduceLeDiff, reduceIte, ↓reduceIte, Nat.reduceEqDiff, Nat.reduceAdd, Nat.reduceMul, Nat.reduceSub, Int.reduceLE, Int.reduceLT, Int.reduceNeg, Int.reduceToNat])
          refine Ret.auto 1 ?_ rfl ?_ <;> simp only [go_sem, reduceCtorEq, reduceIte, Nat.reduceEqDiff, Nat.reduceLT, Nat.reduceLeDiff, Int.natCast_succ, Post, hW, List.map_append, List.map_cons, List.map_nil]
          all_goals rfl
        · have h5' : ¬ (5 : Int) ≤ z1.length := by omega
          (repeat' first | with_reducible (first | refine Asm.intro fun _ => ?_ | refine Chk.g ?_ | refine AnyI.i64 fun _ _ => ?_ | refine LetW.g ?_ | refine LetW.h ?_ | refine Ite.t fun _ => ?_ | refine Ite.f fun _ => ?_ | refine Ite.decide (fun _ => ?_) fun _ => ?_ | refine Ite.bool (fun _ => ?_) fun _ => ?_ | refine And.intro ?_ ?_) | omega | simp (maxSteps := 1000000) only [go_sem, reduceCtorEq, Nat.reduceLT, Nat.reduceLeDiff, reduceIte, ↓reduceIte, Nat.reduceEqDiff, Nat.reduceAdd, Nat.reduceMul, Nat.reduceSub, Int.reduceLE, Int.reduceLT, Int.reduceNeg, Int.reduceToNat, elemA, hel2, tkR, List.length_map, h5'])
          refine ⟨j + 1, Ent.auto0 rfl ?_ ?_, ⟨by omega, ?_⟩, by omega⟩
          · simp only [go_sem, reduceCtorEq, reduceIte, Nat.reduceEqDiff, Nat.reduceLT, Nat.reduceLeDiff, Int.natCast_succ, tkR]
          · simp only [go_sem, reduceCtorEq, reduceIte, Nat.reduceEqDiff, Nat.reduceLT, Nat.reduceLeDiff, Int.natCast_succ, tkR]
          · simpa using hJ1 (by simp [h5])
    · have hW : wordF (hasL tk) = [] := by
        unfold wordF
        rw [hfw, find_no (q := fun t : Tok => t.2 && decide (5 ≤ t.1.length)) (z := ([], false)) fun k hk => hJ k (by omega)]
        rfl
      (repeat' first | with_reducible (first | refine Asm.intro fun _ => ?_ | refine Chk.g ?_ | refine AnyI.i64 fun _ _ => ?_ | refine LetW.g ?_ | refine LetW.h ?_ | refine Ite.t fun _ => ?_ | refine Ite.f fun _ => ?_ | refine Ite.decide (fun _ => ?_) fun _ => ?_ | refine Ite.bool (fun _ => ?_) fun _ => ?_ | refine And.intro ?_ ?_) | omega | simp (maxSteps := 1000000) only [go_sem, reduceCtorEq, Nat.reduceLT, Nat.reduceLeDiff, reduceIte, ↓reduceIte, Nat.reduceEqDiff, Nat.reduceAdd, Nat.reduceMul, Nat.reduceSub, Int.reduceLE, Int.reduceLT, Int.reduceNeg, Int.reduceToNat, tkR, List.length_map])
      refine Ret.auto 1 ?_ rfl ?_ <;> simp only [go_sem, reduceCtorEq, reduceIte, Nat.reduceEqDiff, Nat.reduceLT, Nat.reduceLeDiff, Int.natCast_succ, Post, hW, List.append_nil]
end Go.Fv.S
