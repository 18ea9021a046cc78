/-
  A part of the proof of the claim: walks over the program's functions and the plain laws that these need. No condition of its own.
-/
import Derived.Test.YthhdmejmdjhbkaaGreatDoorYTopCorrCardPart2
import Derived.Test.YthhdmejmdjhbkaaGreatDoorYTopCorrCardPart1
/- Correct: what it computes. -/
namespace Go.Fv.Y
open Go
set_option linter.unusedSimpArgs false
set_option linter.unusedVariables false
set_option linter.unnecessarySimpa false

/-- A word as it is written. -/
def corrW (D : List Wd) (sw : List Sw) (most : Int) (w : Bytes) : Bytes :=
  if hasW D w = true then w
  else match bestG (nearL D sw w most) with
    | some g => g.t
    | none => if smallL w = w then w else match bestG (nearL D sw (smallL w) most) with
      | some g => recL g.t w
      | none => w
structure Fx where
  a : Int
  o : Bytes
  n : Bytes
def Fx.av (x : Fx) : List AV := [.int .i64 x.a, .str x.o, .str x.n]
def Fx.zero : Fx := ⟨0, [], []⟩
instance : FNoId Fx.av := ⟨fun _ => rfl⟩
def fxR (l : List Fx) : RowV := .objs 3 (l.map Fx.av)
/-- What is done so far: the text, the fixes, and how far. -/
structure CS where
  b : Bytes
  f : List Fx
  at_ : Nat
def pieceOf (f : Bytes → Bytes) (t : Tok) : Bytes := if t.2 = true then f t.1 else t.1
def CS.step (f : Bytes → Bytes) (s : CS) (t : Tok) : CS := ⟨s.b ++ pieceOf f t, if pieceOf f t = t.1 then s.f else s.f ++ [⟨s.at_, t.1, pieceOf f t⟩], s.at_ + t.1.length⟩
def csAll (f : Bytes → Bytes) (l : List Tok) : CS := l.foldl (CS.step f) ⟨[], [], 0⟩
theorem csAll_take (f : Bytes → Bytes) {l : List Tok} {i : Nat} (h : i < l.length) : csAll f (l.take (i + 1)) = CS.step f (csAll f (l.take i)) (l.getD i ([], false)) := by
  unfold csAll
  rw [List.take_succ_eq_append_getElem h, List.foldl_append, getD_lt h]; rfl
theorem bestG_mem {L : List Gs} {g : Gs} (h : bestG L = some g) : g ∈ L := by
  match L, h with
  | [x], h => cases h; exact List.mem_cons_self
  | x :: y :: r, h =>
    have h2 : (if x.d < y.d ∨ 2 * y.c ≤ x.c then some x else none) = some g := h
    split at h2
    · cases h2; exact List.mem_cons_self
    · cases h2
theorem near_word {D : List Wd} (hg : GoodD D) {sw : List Sw} {w : Bytes} {most : Int} {g : Gs} (h : bestG (nearL D sw w most) = some g) : isWd g.t = true := by
  have h1 := bestG_mem h
  unfold nearL at h1
  exact ws_isWd hg (mem_gsAll ((sortG_perm _).mem_iff.1 h1)).1
theorem isWd_bd {s : Bytes} (h : isWd s = true) : s ≠ [] ∧ s.length ≤ 40 := by
  unfold isWd at h
  simp only [Bool.and_eq_true, decide_eq_true_eq] at h
  exact ⟨h.1.1.1.1, h.1.1.1.2⟩
theorem recL_len (g w : Bytes) : (recL g w).length = g.length := by
  unfold recL greatL
  split
  · simp
  · split
    · simp; omega
    · rfl
theorem corrW_bd {D : List Wd} (hg : GoodD D) (sw : List Sw) (most : Int) {w : Bytes} (hw : isWd w = true) : corrW D sw most w ≠ [] ∧ (corrW D sw most w).length ≤ 40 := by
  have h0 := isWd_bd hw
  unfold corrW
  split
  · exact h0
  · split
    · rename_i g h; exact isWd_bd (near_word hg h)
    · split
      · exact h0
      · split
        · rename_i g h
          have h1 := isWd_bd (near_word hg h)
          have h2 := recL_len g.t w
          have h3 := List.length_pos_iff.2 h1.1
          exact ⟨List.length_pos_iff.1 (by omega), by omega⟩
        · exact h0
/-- Tokens that are no words, or right ones; none is empty. -/
def TokOk (l : List Tok) : Prop := ∀ t, t ∈ l → t.1 ≠ [] ∧ (t.2 = true → isWd t.1 = true)
theorem TokOk.flush {l : List Tok} (h : TokOk l) (b : Bytes) : TokOk (flush l b) := by
  unfold Go.Fv.Y.flush
  split
  · exact h
  · rename_i hb
    intro t ht
    rcases List.mem_append.1 ht with ht | ht
    · exact h t ht
    · rw [List.mem_singleton] at ht; subst ht; exact ⟨hb, fun e => by cases e⟩
theorem toks_ok : ∀ (n : Nat) (s btw : Bytes) (out : List Tok), s.length ≤ n → TokOk out → TokOk (toks s btw out)
  | 0, s, btw, out, h, ho => by
    have : s = [] := List.eq_nil_of_length_eq_zero (by omega)
    subst this
    rw [toks_nil]; exact ho.flush _
  | n + 1, [], btw, out, h, ho => by rw [toks_nil]; exact ho.flush _
  | n + 1, c :: s, btw, out, h, ho => by
    cases hc : inW c with
    | false => rw [toks_other hc]; exact toks_ok n _ _ _ (by simpa using h) ho
    | true =>
      have hd := drop_lt (s := s) hc
      by_cases hw : isWd (midQ ((c :: s).takeWhile inW)) = true
      · rw [toks_word hc _ _ hw]
        refine toks_ok n _ _ _ (by omega) fun t ht => ?_
        rcases List.mem_append.1 ht with ht | ht
        · exact ho.flush _ t ht
        · rw [List.mem_singleton] at ht; subst ht; exact ⟨(isWd_bd hw).1, fun _ => hw⟩
      · rw [toks_row hc _ _ hw]; exact toks_ok n _ _ _ (by omega) ho
theorem tokOk (s : Bytes) : TokOk (toks s [] []) := toks_ok _ s [] [] (Nat.le_refl _) fun t ht => by cases ht
theorem csAll_at (f : Bytes → Bytes) (l : List Tok) : (csAll f l).at_ = (textOf l).length := by
  have key : ∀ (l : List Tok) (s : CS), (l.foldl (CS.step f) s).at_ = s.at_ + (textOf l).length := by
    intro l
    induction l with
    | nil => intro s; rfl
    | cons t l ih =>
      intro s
      rw [List.foldl_cons, ih]
      show s.at_ + t.1.length + (textOf l).length = _
      unfold textOf
      simp; omega
  have := key l ⟨[], [], 0⟩
  simpa [csAll] using this
end Go.Fv.Y

/- The stable sort of guesses: swaps of ranges. -/
namespace Go.Fv.Y
open Go Go.Proofs
set_option linter.unusedSimpArgs false
set_option linter.unusedVariables false
set_option linter.unnecessarySimpa false
set_option maxRecDepth 8000

theorem covG1 {a : Item} : ∀ j, j < 1 → ∃ it, lk [(0, a)] j = some it := fun j hj => by
  have : j = 0 := by omega
  subst this; exact ⟨a, rfl⟩
theorem getD_mid {α : Type} (A C : List α) (u z : α) {p : Nat} (hp : p = A.length) : (A ++ u :: C).getD p z = u := by
  subst hp
  rw [List.getD_eq_getElem?_getD, List.getElem?_append_right (Nat.le_refl _), Nat.sub_self]; rfl
theorem set_mid {α : Type} (A C : List α) (u v : α) {p : Nat} (hp : p = A.length) : (A ++ u :: C).set p v = A ++ v :: C := by
  subst hp
  rw [List.set_append, if_neg (Nat.lt_irrefl _), Nat.sub_self]; rfl
/-- Two places that are swapped. -/
structure SwapF (M M' : List (List AV)) (p q : Nat) (u v : Gs) : Prop where
  l : p < q ∧ q < M.length
  l' : M'.length = M.length
  e1 : M.getD p [] = [.str u.t, .int .i64 u.d, .int .i64 u.c]
  e2 : M.getD q [] = [.str v.t, .int .i64 v.d, .int .i64 v.c]
  s1 : (M.set p [.str v.t, .int .i64 v.d, .int .i64 v.c]).getD q [] = [.str v.t, .int .i64 v.d, .int .i64 v.c]
  s2 : (M.set q [.str u.t, .int .i64 u.d, .int .i64 u.c]).getD p [] = [.str u.t, .int .i64 u.d, .int .i64 u.c]
  t1 : (M.set p [.str v.t, .int .i64 v.d, .int .i64 v.c]).set q [.str u.t, .int .i64 u.d, .int .i64 u.c] = M'
  t2 : (M.set q [.str u.t, .int .i64 u.d, .int .i64 u.c]).set p [.str v.t, .int .i64 v.d, .int .i64 v.c] = M'
theorem swapF {A B C L L' : List Gs} {u v : Gs} {p q : Nat} (hL : L = A ++ u :: (B ++ v :: C)) (hL' : L' = A ++ v :: (B ++ u :: C)) (hp : p = A.length) (hq : q = A.length + 1 + B.length) : SwapF (L.map Gs.av) (L'.map Gs.av) p q u v := by
  have hm : L.map Gs.av = A.map Gs.av ++ u.av :: (B.map Gs.av ++ v.av :: C.map Gs.av) := by rw [hL]; simp
  have hm' : L'.map Gs.av = A.map Gs.av ++ v.av :: (B.map Gs.av ++ u.av :: C.map Gs.av) := by rw [hL']; simp
  have hp' : p = (A.map Gs.av).length := by rw [List.length_map]; exact hp
  have h2 : ∀ x : List AV, ∀ D : List (List AV), A.map Gs.av ++ x :: (B.map Gs.av ++ D) = (A.map Gs.av ++ x :: B.map Gs.av) ++ D := fun x D => by simp
  have hq' : ∀ x : List AV, q = (A.map Gs.av ++ x :: B.map Gs.av).length := fun x => by simp; omega
  refine ⟨⟨by omega, by rw [hm]; simp; omega⟩, by rw [hm, hm']; simp, ?_, ?_, ?_, ?_, ?_, ?_⟩
  · rw [hm, getD_mid _ _ _ _ hp']; rfl
  · rw [hm, h2, getD_mid _ _ _ _ (hq' _)]; rfl
  · rw [hm, set_mid _ _ _ _ hp', h2, getD_mid _ _ _ _ (hq' _)]; rfl
  · rw [hm, h2, set_mid _ _ _ _ (hq' _), ← h2, getD_mid _ _ _ _ hp']; rfl
  · rw [hm, hm', set_mid _ _ _ _ hp', h2, set_mid _ _ _ _ (hq' _), h2]; rfl
  · rw [hm, hm', h2, set_mid _ _ _ _ (hq' _), ← h2, set_mid _ _ _ _ hp']; rfl
def swR (P U M V Q : List Gs) (i : Nat) : List Gs := P ++ ((V.take i ++ U.drop i) ++ (M ++ ((U.take i ++ V.drop i) ++ Q)))
theorem swR_step {P U M V Q : List Gs} {n i : Nat} (hU : U.length = n) (hV : V.length = n) (hi : i < n) :
    SwapF ((swR P U M V Q i).map Gs.av) ((swR P U M V Q (i + 1)).map Gs.av) (P.length + i) (P.length + n + M.length + i) (U.getD i Gs.zero) (V.getD i Gs.zero) := by
  have eu : U.drop i = U.getD i Gs.zero :: U.drop (i + 1) := by rw [List.drop_eq_getElem_cons (by omega), getD_lt (by omega)]
  have ev : V.drop i = V.getD i Gs.zero :: V.drop (i + 1) := by rw [List.drop_eq_getElem_cons (by omega), getD_lt (by omega)]
  have fu : U.take (i + 1) = U.take i ++ [U.getD i Gs.zero] := by rw [List.take_succ_eq_append_getElem (by omega), getD_lt (by omega)]
  have fv : V.take (i + 1) = V.take i ++ [V.getD i Gs.zero] := by rw [List.take_succ_eq_append_getElem (by omega), getD_lt (by omega)]
  refine swapF (A := P ++ V.take i) (B := U.drop (i + 1) ++ M ++ U.take i) (C := V.drop (i + 1) ++ Q) ?_ ?_ ?_ ?_
  · unfold swR; rw [eu, ev]; simp
  · unfold swR; rw [fu, fv]; simp
  · simp; omega
  · simp; omega
theorem swR_len (P U M V Q : List Gs) {n i : Nat} (hU : U.length = n) (hV : V.length = n) (hi : i ≤ n) : (swR P U M V Q i).length = P.length + n + M.length + n + Q.length := by
  unfold swR; simp; omega
theorem swR_zero (P U M V Q : List Gs) : swR P U M V Q 0 = P ++ (U ++ (M ++ (V ++ Q))) := by unfold swR; simp
theorem swR_all (P U M V Q : List Gs) {n : Nat} (hU : U.length = n) (hV : V.length = n) : swR P U M V Q n = P ++ (V ++ (M ++ (U ++ Q))) := by
  unfold swR
  rw [List.take_of_length_le (by omega), List.take_of_length_le (by omega), List.drop_of_length_le (by omega), List.drop_of_length_le (by omega)]; simp
set_option maxHeartbeats 4000000 in
theorem swapRange_io (P U M V Q : List Gs) (n a b : Nat) (F : Nat) (hU : U.length = n) (hV : V.length = n) (ha : a = P.length) (hb : b = P.length + n + M.length) (hq : P.length + n + M.length + n + Q.length ≤ 1000000) :
    FnIO Tryz.prog 176 [.own 0, .int .i64 a, .int .i64 b, .int .i64 n, .fn F []] [(0, .row 65 (gsR (P ++ (U ++ (M ++ (V ++ Q))))))] 1 (.tup []) [(0, .row 65 (gsR (P ++ (V ++ (M ++ (U ++ Q))))))] := by
  refine FnIO.of_vc Tryz.func176 rfl (by decide) (by simp [Tryz.f176]) covG1 [] rfl fun w0 T0 _ => ?_
  simp only [Tryz.f176, argEnv]
  (repeat' first | with_reducible (first | intro _ | refine rc ?_ | refine rl ?_ | refine rh ?_ | refine ru ?_ | refine rt ?_ | refine rf ?_ | refine rs ?_ | refine And.intro ?_ ?_) | omega | simp (maxSteps := 1000000) only [go_sem, simprocAttr, ↓reduceIte])
  refine VcLoop.intro (fun i : Nat => ⟨38, [(0, .own 0), (1, .int .i64 a), (2, .int .i64 b), (3, .int .i64 n), (10, .int .i64 i)], [(0, .row 65 (gsR (swR P U M V Q i)))], 1⟩) (fun i => i ≤ n) (fun i => n - i) 0 ?_ (Nat.zero_le _) fun i hi => ?_
  · refine Ent.autoK 1 rfl (Nat.le_refl 1) ?_ ?_ <;> simp only [go_sem, reduceCtorEq, reduceIte, Nat.reduceEqDiff, Nat.reduceLT, Nat.reduceLeDiff, Int.natCast_succ, swR_zero, fromL, gsR]
    all_goals rfl
  by_cases hlt : i < n
  · have hs := swR_step (P := P) (M := M) (Q := Q) hU hV hlt
    have hsl := swR_len P U M V Q hU hV hi
    have i1 : (a : Int) + (i : Int) = ((P.length + i : Nat) : Int) := by omega
    have i2 : (b : Int) + (i : Int) = ((P.length + n + M.length + i : Nat) : Int) := by omega
    have hsl2 := hsl
    rw [← List.length_map (f := Gs.av)] at hsl
    obtain ⟨hl, hl', e1, e2, s1, s2, t1, t2⟩ := hs
    generalize U.getD i Gs.zero = u at *
    generalize V.getD i Gs.zero = v at *
    (repeat' first | with_reducible (first | intro _ | refine rc ?_ | refine rl ?_ | refine rh ?_ | refine ru ?_ | refine rt ?_ | refine rf ?_ | refine rs ?_ | refine And.intro ?_ ?_) | omega | simp (maxSteps := 1000000) only [go_sem, simprocAttr, ↓reduceIte, i1, i2, Int.toNat_natCast, gsR])
    refine VcDraw.lex [21, 23] [(4, [1]), (5, [1]), (6, [1]), (7, [1])] (by kernel_rfl) (by kernel_rfl) ?_
    (repeat' first | with_reducible (first | intro _ | refine rc ?_ | refine rl ?_ | refine rh ?_ | refine ru ?_ | refine rt ?_ | refine rf ?_ | refine rs ?_ | refine And.intro ?_ ?_) | omega | simp (maxSteps := 1000000) only [go_sem, simprocAttr, ↓reduceIte, i1, i2, Int.toNat_natCast, gsR, elemA, e1, e2, s1, s2, t1, t2])
    refine ⟨i + 1, Ent.autoK 1 rfl (Nat.le_refl 1) ?_ ?_, by omega, by omega⟩ <;> simp only [go_sem, reduceCtorEq, reduceIte, Nat.reduceEqDiff, Nat.reduceLT, Nat.reduceLeDiff, Int.natCast_succ, fromL, gsR]
  · have e : i = n := by omega
    subst e
    rw [swR_all P U M V Q hU hV]
    (repeat' first | with_reducible (first | intro _ | refine rc ?_ | refine rl ?_ | refine rh ?_ | refine ru ?_ | refine rt ?_ | refine rf ?_ | refine rs ?_ | refine And.intro ?_ ?_) | omega | simp (maxSteps := 1000000) only [go_sem, simprocAttr, ↓reduceIte])
    refine RetK.auto 1 (Nat.le_refl 1) ?_ rfl ?_ <;> simp only [go_sem, reduceCtorEq, reduceIte, Nat.reduceEqDiff, Nat.reduceLT, Nat.reduceLeDiff, Int.natCast_succ, fromL, gsR]
end Go.Fv.Y

/- The stable sort of guesses: what insertion does. -/
namespace Go.Fv.Y
open Go Go.Proofs
set_option linter.unusedSimpArgs false
set_option linter.unusedVariables false
set_option linter.unnecessarySimpa false
set_option maxRecDepth 8000

def cmpI (a b : Int) : Int := if a < b then -1 else if b < a then 1 else 0
def cfG (x y : Gs) : Int := if cmpI x.d y.d = 0 then cmpI y.c x.c else cmpI x.d y.d
theorem cfG_lt (x y : Gs) : cfG x y < 0 ↔ lt0 x y := by
  unfold cfG cmpI lt0; split <;> split <;> (try split) <;> (try split) <;> omega
abbrev gd (Y : List Gs) (i : Nat) : Gs := Y.getD i Gs.zero
def StabI (Y : List Gs) : Prop := ∀ p q, p < q → q < Y.length → ke (gd Y p) (gd Y q) → (gd Y p).t < (gd Y q).t
theorem gd_get {Y : List Gs} {i : Nat} (h : i < Y.length) : gd Y i = Y[i] := getD_lt h
theorem stabI_of {Y : List Gs} (h : Stab Y) : StabI Y := fun p q hpq hq hk => by
  have := List.pairwise_iff_getElem.1 h p q (by omega) hq hpq
  rw [gd_get (by omega), gd_get hq] at *
  exact this hk
theorem stab_ofI {Y : List Gs} (h : StabI Y) : Stab Y := List.pairwise_iff_getElem.2 fun p q hp hq hpq hk => by
  have := h p q hpq hq
  rw [gd_get hp, gd_get hq] at this
  exact this hk
theorem srt_ofI {Y : List Gs} (h : ∀ p q, p < q → q < Y.length → ¬ lt0 (gd Y q) (gd Y p)) : Srt Y := List.pairwise_iff_getElem.2 fun p q hp hq hpq => by
  have := h p q hpq hq
  rw [gd_get hp, gd_get hq] at this
  exact this
theorem srtI_of {Y : List Gs} (h : Srt Y) : ∀ p q, p < q → q < Y.length → ¬ lt0 (gd Y q) (gd Y p) := fun p q hpq hq => by
  have := List.pairwise_iff_getElem.1 h p q (by omega) hq hpq
  rw [gd_get (i := p) (by omega), gd_get (i := q) hq]
  exact this
/-- Two neighbours change their places. -/
def swp (Y : List Gs) (j : Nat) : List Gs := Y.take j ++ gd Y (j + 1) :: ([] ++ gd Y j :: Y.drop (j + 2))
theorem swp_src {Y : List Gs} {j : Nat} (h : j + 1 < Y.length) : Y = Y.take j ++ gd Y j :: ([] ++ gd Y (j + 1) :: Y.drop (j + 2)) := by
  have e1 : Y.drop j = gd Y j :: Y.drop (j + 1) := by rw [List.drop_eq_getElem_cons (by omega), gd_get (by omega)]
  have e2 : Y.drop (j + 1) = gd Y (j + 1) :: Y.drop (j + 2) := by rw [List.drop_eq_getElem_cons h, gd_get h]
  conv => lhs; rw [← List.take_append_drop j Y, e1, e2]
  rfl
theorem swp_perm {Y : List Gs} {j : Nat} (h : j + 1 < Y.length) : (swp Y j).Perm Y := by
  conv => rhs; rw [swp_src h]
  unfold swp
  exact List.Perm.append_left _ (List.Perm.swap _ _ _)
theorem swp_len {Y : List Gs} {j : Nat} (h : j + 1 < Y.length) : (swp Y j).length = Y.length := (swp_perm h).length_eq
theorem swp_get {Y : List Gs} {j : Nat} (h : j + 1 < Y.length) (i : Nat) : gd (swp Y j) i = if i = j then gd Y (j + 1) else if i = j + 1 then gd Y j else gd Y i := by
  have hl : (Y.take j).length = j := by rw [List.length_take]; omega
  unfold swp gd
  rw [List.nil_append]
  simp only [List.getD_eq_getElem?_getD]
  by_cases h1 : i < j
  · rw [List.getElem?_append_left (by omega), List.getElem?_take_of_lt h1, if_neg (by omega), if_neg (by omega)]
  rw [List.getElem?_append_right (by omega), hl]
  by_cases h2 : i = j
  · subst h2; rw [Nat.sub_self, if_pos rfl]; rfl
  by_cases h3 : i = j + 1
  · subst h3; rw [if_neg h2, if_pos rfl, show j + 1 - j = 1 by omega]; rfl
  rw [if_neg h2, if_neg h3, show i - j = (i - j - 2) + 2 by omega]
  simp only [List.getElem?_cons_succ]
  rw [List.getElem?_drop, show j + 2 + (i - j - 2) = i by omega]
theorem swp_stab {Y : List Gs} {j : Nat} (h : j + 1 < Y.length) (hl : lt0 (gd Y (j + 1)) (gd Y j)) (hs : StabI Y) : StabI (swp Y j) := fun p q hpq hq hk => by
  rw [swp_len h] at hq
  rw [swp_get h, swp_get h] at *
  by_cases p1 : p = j
  · by_cases q2 : q = j + 1
    · rw [if_pos p1, if_neg (by omega), if_pos q2] at hk
      exact absurd hk (lt0_ke hl).1
    · rw [if_pos p1, if_neg (by omega), if_neg q2] at *
      exact hs _ _ (by omega) hq hk
  rw [if_neg p1] at *
  by_cases p2 : p = j + 1
  · rw [if_pos p2, if_neg (by omega), if_neg (by omega)] at *
    exact hs _ _ (by omega) hq hk
  rw [if_neg p2] at *
  by_cases q1 : q = j
  · rw [if_pos q1] at *
    exact hs _ _ (by omega) h hk
  rw [if_neg q1] at *
  by_cases q2 : q = j + 1
  · rw [if_pos q2] at *
    exact hs _ _ (by omega) (by omega) hk
  rw [if_neg q2] at *
  exact hs _ _ hpq hq hk
/-- The prefix up to k is in order but for the place j. -/
def InsI (Y : List Gs) (k j : Nat) : Prop := ∀ p q, p < q → q ≤ k → q ≠ j → ¬ lt0 (gd Y q) (gd Y p)
theorem insI_swap {Y : List Gs} {k j : Nat} (hk : k < Y.length) (hj : j + 1 ≤ k) (h : InsI Y k (j + 1)) (hl : lt0 (gd Y (j + 1)) (gd Y j)) : InsI (swp Y j) k j := fun p q hpq hq hne => by
  have hb : j + 1 < Y.length := by omega
  rw [swp_get hb, swp_get hb, if_neg hne]
  by_cases q2 : q = j + 1
  · rw [if_pos q2]
    by_cases p1 : p = j
    · rw [if_pos p1]; exact lt0_asymm hl
    · rw [if_neg p1, if_neg (by omega)]
      exact h _ _ (by omega) (by omega) (by omega)
  rw [if_neg q2]
  by_cases p1 : p = j
  · rw [if_pos p1]; exact h _ _ (by omega) hq q2
  rw [if_neg p1]
  by_cases p2 : p = j + 1
  · rw [if_pos p2]; exact h _ _ (by omega) hq q2
  rw [if_neg p2]; exact h _ _ hpq hq q2
theorem insI_end {Y : List Gs} {k j : Nat} (hj : j ≤ k) (h : InsI Y k j) (he : 0 < j → ¬ lt0 (gd Y j) (gd Y (j - 1))) : ∀ p q, p < q → q ≤ k → ¬ lt0 (gd Y q) (gd Y p) := fun p q hpq hq => by
  by_cases e : q = j
  · subst e
    by_cases e2 : p = q - 1
    · subst e2; exact he (by omega)
    · exact nlt_trans (h p (q - 1) (by omega) (by omega) (by omega)) (he (by omega))
  · exact h p q hpq hq e
theorem swp_swapF {P Y Q : List Gs} {j : Nat} (h : j + 1 < Y.length) : SwapF ((P ++ (Y ++ Q)).map Gs.av) ((P ++ (swp Y j ++ Q)).map Gs.av) (P.length + j) (P.length + (j + 1)) (gd Y j) (gd Y (j + 1)) := by
  refine swapF (A := P ++ Y.take j) (B := []) (C := Y.drop (j + 2) ++ Q) ?_ ?_ ?_ ?_
  · conv => lhs; rw [swp_src h]
    simp
  · unfold swp; simp
  · simp; omega
  · simp; omega
end Go.Fv.Y

/- The stable sort of guesses: the walk of insertion. -/
namespace Go.Fv.Y
open Go Go.Proofs
set_option linter.unusedSimpArgs false
set_option linter.unusedVariables false
set_option linter.unnecessarySimpa false
set_option maxRecDepth 8000

/-- What is asked of the comparison. -/
def CmpG (F : Nat) : Prop := ∀ x y : Gs, FnOk Tryz.prog F [.agg [.str x.t, .int .i64 x.d, .int .i64 x.c], .agg [.str y.t, .int .i64 y.d, .int .i64 y.c]] (.int .i64 (cfG x y)) []
theorem below_gs (l : List Gs) (n i : Nat) : belowL n (List.take 3 ((l.map Gs.av).getD i [])) = true := by
  rw [List.getD_eq_getElem?_getD, List.getElem?_map]
  cases l[i]? <;> rfl
theorem cf_neg {x y : Gs} (h : lt0 x y) : cfG x y < 0 := (cfG_lt x y).2 h
theorem cf_not {x y : Gs} (h : ¬ lt0 x y) : ¬ cfG x y < 0 := fun h2 => h ((cfG_lt x y).1 h2)
set_option maxHeartbeats 8000000 in
theorem insertion_io (F : Nat) (hF : CmpG F) (P X Q : List Gs) (a b : Nat) (ha : a = P.length) (hb : b = P.length + X.length) (hS : Stab X) (hN : P.length + X.length + Q.length ≤ 1000000) :
    FnIO Tryz.prog 136 [.own 0, .int .i64 a, .int .i64 b, .fn F []] [(0, .row 65 (gsR (P ++ (X ++ Q))))] 1 (.tup []) [(0, .row 65 (gsR (P ++ (sortG X ++ Q))))] := by
  refine FnIO.of_vc Tryz.func136 rfl (by decide) (by simp [Tryz.f136]) covG1 [] rfl fun w0 T0 _ => ?_
  simp only [Tryz.f136, argEnv]
  generalize hR : sortG X = R
  have i1 : (a : Int) + 1 = ((P.length + 1 : Nat) : Int) := by omega
  (repeat' first | with_reducible (first | intro _ | refine rc ?_ | refine rl ?_ | refine rh ?_ | refine ru ?_ | refine rt ?_ | refine rf ?_ | refine rs ?_ | refine And.intro ?_ ?_) | omega | simp (maxSteps := 1000000) only [go_sem, simprocAttr, ↓reduceIte, i1])
  refine VcLoop.intro (fun x : Nat × List Gs => ⟨53, [(0, .own 0), (1, .int .i64 a), (2, .int .i64 b), (3, .fn F []), (8, .int .i64 (P.length + x.1 : Nat))], [(0, .row 65 (gsR (P ++ (x.2 ++ Q))))], 1⟩) (fun x => 1 ≤ x.1 ∧ (x.1 ≤ X.length ∨ x.1 = 1) ∧ x.2.Perm X ∧ StabI x.2 ∧ ∀ p q, p < q → q < x.1 → ¬ lt0 (gd x.2 q) (gd x.2 p)) (fun x => X.length + 1 - x.1) (1, X) ?_ ⟨Nat.le_refl 1, .inr rfl, List.Perm.refl _, stabI_of hS, fun p q h1 h2 => by omega⟩ fun x hx => ?_
  · refine Ent.autoK 1 rfl (Nat.le_refl 1) ?_ ?_ <;> simp only [go_sem, reduceCtorEq, reduceIte, Nat.reduceEqDiff, Nat.reduceLT, Nat.reduceLeDiff, Int.natCast_succ, fromL, gsR]
  obtain ⟨k, Y⟩ := x
  obtain ⟨hk1, hk2, hp, hs, ho⟩ := hx
  dsimp only at hk1 hk2 hp hs ho ⊢
  have hYl := hp.length_eq
  by_cases hlt : k < X.length
  · have hc : ((P.length + k : Nat) : Int) < (b : Int) := by omega
    (repeat' first | with_reducible (first | intro _ | refine rc ?_ | refine rl ?_ | refine rh ?_ | refine ru ?_ | refine rt ?_ | refine rf ?_ | refine rs ?_ | refine And.intro ?_ ?_) | omega | simp (maxSteps := 1000000) only [go_sem, simprocAttr, ↓reduceIte, hc])
    refine VcLoop.intro (fun x : Nat × List Gs => ⟨53, [(0, .own 0), (1, .int .i64 a), (2, .int .i64 b), (3, .fn F []), (8, .int .i64 (P.length + k : Nat)), (9, .int .i64 (P.length + x.1 : Nat))], [(0, .row 65 (gsR (P ++ (x.2 ++ Q))))], 1⟩) (fun x => x.1 ≤ k ∧ x.2.Perm X ∧ StabI x.2 ∧ InsI x.2 k x.1) (fun x => x.1) (k, Y) ?_ ⟨Nat.le_refl _, hp, hs, fun p q h1 h2 h3 => ho p q h1 (by omega)⟩ fun x hx => ?_
    · refine Ent.autoK 1 rfl (Nat.le_refl 1) ?_ ?_ <;> simp only [go_sem, reduceCtorEq, reduceIte, Nat.reduceEqDiff, Nat.reduceLT, Nat.reduceLeDiff, Int.natCast_succ, fromL, gsR]
    clear hp hs ho hYl
    obtain ⟨j, Y⟩ := x
    obtain ⟨hj, hp, hs, ho⟩ := hx
    dsimp only at hj hp hs ho ⊢
    have hYl := hp.length_eq
    have hlen : ((P ++ (Y ++ Q)).map Gs.av).length = P.length + X.length + Q.length := by simp; omega
    have hlen2 : (P ++ (Y ++ Q)).length = P.length + X.length + Q.length := by simp; omega
    have hend : (0 < j → ¬ lt0 (gd Y j) (gd Y (j - 1))) → (1 ≤ k + 1 ∧ (k + 1 ≤ X.length ∨ k + 1 = 1) ∧ Y.Perm X ∧ StabI Y ∧ ∀ p q, p < q → q < k + 1 → ¬ lt0 (gd Y q) (gd Y p)) := fun he =>
      ⟨by omega, by omega, hp, hs, fun p q h1 h2 => insI_end hj ho he p q h1 (by omega)⟩
    have n1 : ((P.length + k : Nat) : Int) + 1 = ((P.length + (k + 1) : Nat) : Int) := by omega
    cases j with
    | zero =>
      have hg : ¬ (a : Int) < (P.length : Int) := by omega
      (repeat' first | with_reducible (first | intro _ | refine rc ?_ | refine rl ?_ | refine rh ?_ | refine ru ?_ | refine rt ?_ | refine rf ?_ | refine rs ?_ | refine And.intro ?_ ?_) | omega | simp (maxSteps := 1000000) only [go_sem, simprocAttr, ↓reduceIte, hg])
      refine VcDraw.lex [] [] (by kernel_rfl) (by kernel_rfl) ?_
      (repeat' first | with_reducible (first | intro _ | refine rc ?_ | refine rl ?_ | refine rh ?_ | refine ru ?_ | refine rt ?_ | refine rf ?_ | refine rs ?_ | refine And.intro ?_ ?_) | omega | simp (maxSteps := 1000000) only [go_sem, simprocAttr, ↓reduceIte, hg, gsR, below_gs])
      refine QV.intro (.int .i64 0) ?_ ?_
      · (repeat' first | with_reducible (first | intro _ | refine rc ?_ | refine rl ?_ | refine rh ?_ | refine ru ?_ | refine rt ?_ | refine rf ?_ | refine rs ?_ | refine And.intro ?_ ?_) | omega | simp (maxSteps := 1000000) only [go_sem, simprocAttr, ↓reduceIte, hg, gsR])
      (repeat' first | with_reducible (first | intro _ | refine rc ?_ | refine rl ?_ | refine rh ?_ | refine ru ?_ | refine rt ?_ | refine rf ?_ | refine rs ?_ | refine And.intro ?_ ?_) | omega | simp (maxSteps := 1000000) only [go_sem, simprocAttr, ↓reduceIte, hg, gsR])
      refine ⟨(k + 1, Y), Ent.autoK 1 rfl (Nat.le_refl 1) ?_ ?_, hend (fun h => absurd h (Nat.lt_irrefl 0)), by dsimp only; omega⟩ <;> simp only [go_sem, reduceCtorEq, reduceIte, Nat.reduceEqDiff, Nat.reduceLT, Nat.reduceLeDiff, Int.natCast_succ, fromL, gsR, n1]
    | succ j =>
      have hjb : j + 1 < Y.length := by omega
      have hg : (a : Int) < ((P.length + (j + 1) : Nat) : Int) := by omega
      have m1 : ((P.length + (j + 1) : Nat) : Int) - 1 = ((P.length + j : Nat) : Int) := by omega
      have hsw := swp_swapF (P := P) (Q := Q) hjb
      have kc := hF (gd Y (j + 1)) (gd Y j)
      have hsl : (swp Y j).length = Y.length := swp_len hjb
      obtain ⟨hl, hl', e1, e2, s1, s2, t1, t2⟩ := hsw
      by_cases hlt0 : lt0 (gd Y (j + 1)) (gd Y j)
      · have hcn := cf_neg hlt0
        have hinv : j ≤ k ∧ (swp Y j).Perm X ∧ StabI (swp Y j) ∧ InsI (swp Y j) k j := ⟨by omega, (swp_perm hjb).trans hp, swp_stab hjb hlt0 hs, insI_swap (by omega) hj ho hlt0⟩
        generalize cfG (gd Y (j + 1)) (gd Y j) = cv at *
        generalize gd Y (j + 1) = v at *
        generalize gd Y j = u at *
        (repeat' first | with_reducible (first | intro _ | refine rc ?_ | refine rl ?_ | refine rh ?_ | refine ru ?_ | refine rt ?_ | refine rf ?_ | refine rs ?_ | refine And.intro ?_ ?_) | omega | simp (maxSteps := 1000000) only [go_sem, simprocAttr, ↓reduceIte, hg, m1])
        refine VcDraw.lex [] [] (by kernel_rfl) (by kernel_rfl) ?_
        (repeat' first | with_reducible (first | intro _ | refine rc ?_ | refine rl ?_ | refine rh ?_ | refine ru ?_ | refine rt ?_ | refine rf ?_ | refine rs ?_ | refine And.intro ?_ ?_) | omega | simp (maxSteps := 1000000) only [go_sem, simprocAttr, ↓reduceIte, hg, m1, gsR, Int.toNat_natCast, elemA, e1, e2])
        refine QV.intro (.int .i64 cv) ?_ ?_
        · (repeat' first | with_reducible (first | intro _ | refine rc ?_ | refine rl ?_ | refine rh ?_ | refine ru ?_ | refine rt ?_ | refine rf ?_ | refine rs ?_ | refine And.intro ?_ ?_) | omega | simp (maxSteps := 1000000) only [go_sem, simprocAttr, ↓reduceIte, hg, m1, gsR, Int.toNat_natCast, elemA, e1, e2])
          refine VcCall.k (kc) ?_
          (repeat' first | with_reducible (first | intro _ | refine rc ?_ | refine rl ?_ | refine rh ?_ | refine ru ?_ | refine rt ?_ | refine rf ?_ | refine rs ?_ | refine And.intro ?_ ?_) | omega | simp (maxSteps := 1000000) only [go_sem, simprocAttr, ↓reduceIte, gsR])
        (repeat' first | with_reducible (first | intro _ | refine rc ?_ | refine rl ?_ | refine rh ?_ | refine ru ?_ | refine rt ?_ | refine rf ?_ | refine rs ?_ | refine And.intro ?_ ?_) | omega | simp (maxSteps := 1000000) only [go_sem, simprocAttr, ↓reduceIte, hg, m1, hcn, gsR])
        refine VcDraw.lex [15, 17] [(2, [1]), (3, [1]), (4, [1])] (by kernel_rfl) (by kernel_rfl) ?_
        (repeat' first | with_reducible (first | intro _ | refine rc ?_ | refine rl ?_ | refine rh ?_ | refine ru ?_ | refine rt ?_ | refine rf ?_ | refine rs ?_ | refine And.intro ?_ ?_) | omega | simp (maxSteps := 1000000) only [go_sem, simprocAttr, ↓reduceIte, hg, m1, gsR, Int.toNat_natCast, elemA, e1, e2, s1, s2, t1, t2])
        refine ⟨(j, swp Y j), Ent.autoK 1 rfl (Nat.le_refl 1) ?_ ?_, hinv, by dsimp only; omega⟩ <;> simp only [go_sem, reduceCtorEq, reduceIte, Nat.reduceEqDiff, Nat.reduceLT, Nat.reduceLeDiff, Int.natCast_succ, fromL, gsR, m1]
      · have hcn := cf_not hlt0
        have hfin := hend (fun _ => hlt0)
        clear hend
        generalize cfG (gd Y (j + 1)) (gd Y j) = cv at *
        generalize gd Y (j + 1) = v at *
        generalize gd Y j = u at *
        (repeat' first | with_reducible (first | intro _ | refine rc ?_ | refine rl ?_ | refine rh ?_ | refine ru ?_ | refine rt ?_ | refine rf ?_ | refine rs ?_ | refine And.intro ?_ ?_) | omega | simp (maxSteps := 1000000) only [go_sem, simprocAttr, ↓reduceIte, hg, m1])
        refine VcDraw.lex [] [] (by kernel_rfl) (by kernel_rfl) ?_
        (repeat' first | with_reducible (first | intro _ | refine rc ?_ | refine rl ?_ | refine rh ?_ | refine ru ?_ | refine rt ?_ | refine rf ?_ | refine rs ?_ | refine And.intro ?_ ?_) | omega | simp (maxSteps := 1000000) only [go_sem, simprocAttr, ↓reduceIte, hg, m1, gsR, Int.toNat_natCast, elemA, e1, e2])
        refine QV.intro (.int .i64 cv) ?_ ?_
        · (repeat' first | with_reducible (first | intro _ | refine rc ?_ | refine rl ?_ | refine rh ?_ | refine ru ?_ | refine rt ?_ | refine rf ?_ | refine rs ?_ | refine And.intro ?_ ?_) | omega | simp (maxSteps := 1000000) only [go_sem, simprocAttr, ↓reduceIte, hg, m1, gsR, Int.toNat_natCast, elemA, e1, e2])
          refine VcCall.k (kc) ?_
          (repeat' first | with_reducible (first | intro _ | refine rc ?_ | refine rl ?_ | refine rh ?_ | refine ru ?_ | refine rt ?_ | refine rf ?_ | refine rs ?_ | refine And.intro ?_ ?_) | omega | simp (maxSteps := 1000000) only [go_sem, simprocAttr, ↓reduceIte, gsR])
        (repeat' first | with_reducible (first | intro _ | refine rc ?_ | refine rl ?_ | refine rh ?_ | refine ru ?_ | refine rt ?_ | refine rf ?_ | refine rs ?_ | refine And.intro ?_ ?_) | omega | simp (maxSteps := 1000000) only [go_sem, simprocAttr, ↓reduceIte, hg, m1, hcn, gsR])
        refine ⟨(k + 1, Y), Ent.autoK 1 rfl (Nat.le_refl 1) ?_ ?_, hfin, by dsimp only; omega⟩ <;> simp only [go_sem, reduceCtorEq, reduceIte, Nat.reduceEqDiff, Nat.reduceLT, Nat.reduceLeDiff, Int.natCast_succ, fromL, gsR, n1]
  · have e : R = Y := by
      rw [← hR]
      refine (srt_eq hp (srt_ofI fun p q h1 h2 => ho p q h1 (by omega)) (stab_ofI hs)).symm
    subst e
    have hc : ¬ ((P.length + k : Nat) : Int) < (b : Int) := by omega
    (repeat' first | with_reducible (first | intro _ | refine rc ?_ | refine rl ?_ | refine rh ?_ | refine ru ?_ | refine rt ?_ | refine rf ?_ | refine rs ?_ | refine And.intro ?_ ?_) | omega | simp (maxSteps := 1000000) only [go_sem, simprocAttr, ↓reduceIte, hc])
    refine RetK.auto 1 (Nat.le_refl 1) ?_ rfl ?_ <;> simp only [go_sem, reduceCtorEq, reduceIte, Nat.reduceEqDiff, Nat.reduceLT, Nat.reduceLeDiff, Int.natCast_succ, fromL, gsR]
end Go.Fv.Y

/- The stable sort of guesses: what a merge does, in plain words. -/
namespace Go.Fv.Y
open Go
set_option linter.unusedSimpArgs false
set_option linter.unusedVariables false
set_option linter.unnecessarySimpa false

theorem mem_take_gd {Y : List Gs} {k : Nat} {y : Gs} (h : y ∈ Y.take k) : ∃ i, i < k ∧ i < Y.length ∧ y = gd Y i := by
  obtain ⟨i, hi, e⟩ := List.getElem_of_mem h
  rw [List.length_take] at hi
  rw [List.getElem_take] at e
  exact ⟨i, by omega, by omega, by rw [gd_get (by omega)]; exact e.symm⟩
theorem mem_drop_gd {Y : List Gs} {k : Nat} {y : Gs} (h : y ∈ Y.drop k) : ∃ i, k ≤ i ∧ i < Y.length ∧ y = gd Y i := by
  obtain ⟨i, hi, e⟩ := List.getElem_of_mem h
  rw [List.length_drop] at hi
  rw [List.getElem_drop] at e
  exact ⟨k + i, by omega, by omega, by rw [gd_get (by omega)]; exact e.symm⟩
theorem le_le {x y : Gs} (h : lt0 x y) : leG x y = true := leG_iff.2 (.inl h)
theorem take_drop_le {Y : List Gs} (h : Y.Pairwise fun x y => leG x y = true) (k : Nat) : ∀ x, x ∈ Y.take k → ∀ y, y ∈ Y.drop k → leG x y = true := by
  have := h
  rw [← List.take_append_drop k Y, List.pairwise_append] at this
  exact this.2.2
/-- One before an ordered list. -/
theorem merge_first {x : Gs} {V : List Gs} {k : Nat} (hV : Srt V) (hs : Stab (x :: V)) (h1 : ∀ i, i < k → i < V.length → lt0 (gd V i) x) (h2 : ∀ i, k ≤ i → i < V.length → ¬ lt0 (gd V i) x) : V.take k ++ x :: V.drop k = sortG (x :: V) := by
  obtain ⟨hx, hsV⟩ := List.pairwise_cons.1 hs
  have hle := both_le hV hsV
  refine sortG_eq ?_ (List.pairwise_append.2 ⟨hle.sublist (List.take_sublist _ _), List.pairwise_cons.2 ⟨fun y hy => ?_, hle.sublist (List.drop_sublist _ _)⟩, fun y hy z hz => ?_⟩)
  · refine List.perm_middle.trans ?_
    rw [List.take_append_drop]
  · obtain ⟨i, hi, hl, rfl⟩ := mem_drop_gd hy
    exact leG_of (h2 i hi hl) (hx _ (List.mem_of_mem_drop hy))
  · rcases List.mem_cons.1 hz with rfl | hz
    · obtain ⟨i, hi, hl, rfl⟩ := mem_take_gd hy
      exact le_le (h1 i hi hl)
    · exact take_drop_le hle k y hy z hz
/-- One behind an ordered list. -/
theorem merge_last {y : Gs} {U : List Gs} {k : Nat} (hU : Srt U) (hs : Stab (U ++ [y])) (h1 : ∀ i, i < k → i < U.length → ¬ lt0 y (gd U i)) (h2 : ∀ i, k ≤ i → i < U.length → lt0 y (gd U i)) : U.take k ++ y :: U.drop k = sortG (U ++ [y]) := by
  obtain ⟨hsU, _, hx⟩ := List.pairwise_append.1 hs
  have hle := both_le hU hsU
  refine sortG_eq ?_ (List.pairwise_append.2 ⟨hle.sublist (List.take_sublist _ _), List.pairwise_cons.2 ⟨fun z hz => ?_, hle.sublist (List.drop_sublist _ _)⟩, fun z hz w hw => ?_⟩)
  · refine List.perm_middle.trans ?_
    rw [List.take_append_drop]
    exact (List.perm_append_comm (l₁ := U) (l₂ := [y])).symm
  · obtain ⟨i, hi, hl, rfl⟩ := mem_drop_gd hz
    exact le_le (h2 i hi hl)
  · rcases List.mem_cons.1 hw with rfl | hw
    · obtain ⟨i, hi, hl, e⟩ := mem_take_gd hz
      exact leG_of (by rw [e]; exact h1 i hi hl) (hx _ (List.mem_of_mem_take hz) _ List.mem_cons_self)
    · exact take_drop_le hle k z hz w hw
/-- Two ordered lists that were cut so that nothing of the first parts is behind anything of the last ones. -/
theorem merge_two {U1 U2 V1 V2 : List Gs} (hU : Srt (U1 ++ U2)) (hV : Srt (V1 ++ V2)) (hs : Stab ((U1 ++ U2) ++ (V1 ++ V2))) (h1 : ∀ u, u ∈ U1 → ∀ v, v ∈ V2 → ¬ lt0 v u) (h2 : ∀ v, v ∈ V1 → ∀ u, u ∈ U2 → lt0 v u) :
    sortG (U1 ++ V1) ++ sortG (U2 ++ V2) = sortG ((U1 ++ U2) ++ (V1 ++ V2)) := by
  obtain ⟨hsU, hsV, hx⟩ := List.pairwise_append.1 hs
  have leU := (List.pairwise_append.1 (both_le hU hsU)).2.2
  have leV := (List.pairwise_append.1 (both_le hV hsV)).2.2
  refine sortG_eq ?_ (List.pairwise_append.2 ⟨sortG_le _, sortG_le _, fun x hx1 y hy1 => ?_⟩)
  · refine ((sortG_perm _).append (sortG_perm _)).trans ?_
    rw [List.append_assoc, List.append_assoc]
    refine List.Perm.append_left _ ?_
    rw [← List.append_assoc, ← List.append_assoc]
    exact List.Perm.append_right _ List.perm_append_comm
  · have hx1 := (sortG_perm _).mem_iff.1 hx1
    have hy1 := (sortG_perm _).mem_iff.1 hy1
    rcases List.mem_append.1 hx1 with hx1 | hx1 <;> rcases List.mem_append.1 hy1 with hy1 | hy1
    · exact leU _ hx1 _ hy1
    · exact leG_of (h1 _ hx1 _ hy1) (hx _ (List.mem_append_left _ hx1) _ (List.mem_append_right _ hy1))
    · exact le_le (h2 _ hx1 _ hy1)
    · exact leV _ hx1 _ hy1
theorem nlt_chain {Y : List Gs} (h : Srt Y) {i j : Nat} (hij : i ≤ j) (hj : j < Y.length) : ¬ lt0 (gd Y j) (gd Y i) := by
  by_cases e : i = j
  · subst e; exact lt0_irrefl _
  · exact srtI_of h i j (by omega) hj
theorem lt_mix {x y z w : Gs} (h1 : ¬ lt0 y x) (h2 : lt0 y z) (h3 : ¬ lt0 w z) : lt0 x w := by unfold lt0 at *; omega
/-- Where the search of a merge ends. -/
structure CutG (U V : List Gs) (s e : Nat) : Prop where
  hs : s ≤ U.length
  he : e ≤ V.length
  a : 0 < s → e < V.length → ¬ lt0 (gd V e) (gd U (s - 1))
  b : s < U.length → 0 < e → lt0 (gd V (e - 1)) (gd U s)
theorem CutG.merge {U V : List Gs} {s e : Nat} (c : CutG U V s e) (hU : Srt U) (hV : Srt V) (hst : Stab (U ++ V)) : sortG (U.take s ++ V.take e) ++ sortG (U.drop s ++ V.drop e) = sortG (U ++ V) := by
  have e1 := List.take_append_drop s U
  have e2 := List.take_append_drop e V
  have := merge_two (U1 := U.take s) (U2 := U.drop s) (V1 := V.take e) (V2 := V.drop e) (by rw [e1]; exact hU) (by rw [e2]; exact hV) (by rw [e1, e2]; exact hst) (fun u hu v hv => ?_) (fun v hv u hu => ?_)
  · rw [this, e1, e2]
  · obtain ⟨i, hi, hil, rfl⟩ := mem_take_gd hu
    obtain ⟨j, hj, hjl, rfl⟩ := mem_drop_gd hv
    have h0 := c.a (by omega) (by omega)
    have hs := c.hs
    exact nlt_trans (nlt_trans (nlt_chain hU (i := i) (j := s - 1) (by omega) (by omega)) h0) (nlt_chain hV hj hjl)
  · obtain ⟨j, hj, hjl, rfl⟩ := mem_take_gd hv
    obtain ⟨i, hi, hil, rfl⟩ := mem_drop_gd hu
    have h0 := c.b (by omega) (by omega)
    have he := c.he
    exact lt_mix (nlt_chain hV (i := j) (j := e - 1) (by omega) (by omega)) h0 (nlt_chain hU hi hil)
theorem Srt.take {Y : List Gs} (h : Srt Y) (k : Nat) : Srt (Y.take k) := List.Pairwise.sublist (List.take_sublist _ _) h
theorem Srt.drop {Y : List Gs} (h : Srt Y) (k : Nat) : Srt (Y.drop k) := List.Pairwise.sublist (List.drop_sublist _ _) h
theorem stab_takes {U V : List Gs} (h : Stab (U ++ V)) (s e : Nat) : Stab (U.take s ++ V.take e) := List.Pairwise.sublist ((List.take_sublist _ _).append (List.take_sublist _ _)) h
theorem stab_drops {U V : List Gs} (h : Stab (U ++ V)) (s e : Nat) : Stab (U.drop s ++ V.drop e) := List.Pairwise.sublist ((List.drop_sublist _ _).append (List.drop_sublist _ _)) h
theorem gd_left {P : List Gs} (R : List Gs) {U : List Gs} {i k : Nat} (hk : k = P.length + i) (hi : i < U.length) : gd (P ++ (U ++ R)) k = gd U i := by
  subst hk
  unfold gd
  rw [List.getD_eq_getElem?_getD, List.getElem?_append_right (by omega), Nat.add_sub_cancel_left, List.getElem?_append_left hi, ← List.getD_eq_getElem?_getD]
theorem gd_right {P U : List Gs} (Q : List Gs) {V : List Gs} {i k : Nat} (hk : k = P.length + U.length + i) (hi : i < V.length) : gd (P ++ (U ++ (V ++ Q))) k = gd V i := by
  rw [← List.append_assoc]
  exact gd_left (P := P ++ U) Q (by rw [List.length_append]; exact hk) hi
end Go.Fv.Y

/- The stable sort of guesses: two parts change their places. -/
namespace Go.Fv.Y
open Go Go.Proofs
set_option linter.unusedSimpArgs false
set_option linter.unusedVariables false
set_option linter.unnecessarySimpa false
set_option maxRecDepth 8000

structure RoI where
  P : List Gs
  U : List Gs
  V : List Gs
  Q : List Gs
set_option maxHeartbeats 8000000 in
theorem rotate_io (P U V Q : List Gs) (a m b : Nat) (F : Nat) (ha : a = P.length) (hm : m = P.length + U.length) (hb : b = P.length + U.length + V.length) (hU : 0 < U.length) (hV : 0 < V.length) (hN : P.length + U.length + V.length + Q.length ≤ 1000000) :
    FnIO Tryz.prog 169 [.own 0, .int .i64 a, .int .i64 m, .int .i64 b, .fn F []] [(0, .row 65 (gsR (P ++ (U ++ (V ++ Q)))))] 1 (.tup []) [(0, .row 65 (gsR (P ++ (V ++ (U ++ Q)))))] := by
  refine FnIO.of_vc Tryz.func169 rfl (by decide) (by simp [Tryz.f169]) covG1 [] rfl fun w0 T0 _ => ?_
  simp only [Tryz.f169, argEnv]
  have i1 : (m : Int) - (a : Int) = (U.length : Int) := by omega
  have i2 : (b : Int) - (m : Int) = (V.length : Int) := by omega
  generalize hR : P ++ (V ++ (U ++ Q)) = R
  generalize hT : P.length + U.length + V.length + Q.length = N at *
  (repeat' first | with_reducible (first | intro _ | refine rc ?_ | refine rl ?_ | refine rh ?_ | refine ru ?_ | refine rt ?_ | refine rf ?_ | refine rs ?_ | refine And.intro ?_ ?_) | omega | simp (maxSteps := 1000000) only [go_sem, simprocAttr, ↓reduceIte, i1, i2])
  refine VcLoop.intro (fun x : RoI => ⟨58, [(0, .own 0), (2, .int .i64 m), (4, .fn F []), (10, .int .i64 x.U.length), (11, .int .i64 x.V.length)], [(0, .row 65 (gsR (x.P ++ (x.U ++ (x.V ++ x.Q)))))], 1⟩) (fun x => x.P.length + x.U.length = m ∧ 0 < x.U.length ∧ 0 < x.V.length ∧ x.P.length + x.U.length + x.V.length + x.Q.length = N ∧ x.P ++ (x.V ++ (x.U ++ x.Q)) = R) (fun x => x.U.length + x.V.length) ⟨P, U, V, Q⟩ ?_ ⟨hm.symm, hU, hV, hT, hR⟩ fun x hx => ?_
  · refine Ent.autoK 1 rfl (Nat.le_refl 1) ?_ ?_ <;> simp only [go_sem, reduceCtorEq, reduceIte, Nat.reduceEqDiff, Nat.reduceLT, Nat.reduceLeDiff, Int.natCast_succ, fromL, gsR]
  clear hR hT hU hV i1 i2 ha hm hb
  obtain ⟨P, U, V, Q⟩ := x
  obtain ⟨hm, hU, hV, hT, hR⟩ := hx
  dsimp only at hm hU hV hT hR ⊢
  have j1 : (m : Int) - (U.length : Int) = (P.length : Int) := by omega
  rcases Nat.lt_trichotomy V.length U.length with hlt | heq | hgt
  · have hr : P ++ (U ++ (V ++ Q)) = P ++ (U.take V.length ++ (U.drop V.length ++ (V ++ Q))) := by
      rw [← List.append_assoc (U.take V.length), List.take_append_drop]
    have k := swapRange_io P (U.take V.length) (U.drop V.length) V Q V.length P.length m F (by simp; omega) rfl rfl (by simp; omega) (by simp; omega)
    rw [hr]
    have j2 : (U.length : Int) - (V.length : Int) = ((U.drop V.length).length : Int) := by rw [List.length_drop]; omega
    have j3 : (V.length : Int) = ((U.take V.length).length : Int) := by rw [List.length_take]; omega
    have hR' : (P ++ V) ++ (U.take V.length ++ (U.drop V.length ++ Q)) = R := by
      rw [← hR]
      rw [List.append_assoc, ← List.append_assoc (U.take V.length), List.take_append_drop]
    have hl1 : (U.take V.length).length = V.length := by simp; omega
    have hl2 : (U.drop V.length).length = U.length - V.length := by simp
    have hne : ¬ (U.length : Int) = (V.length : Int) := by omega
    have hgt : (U.length : Int) > (V.length : Int) := by omega
    have hgt : (V.length : Int) < (U.length : Int) := by omega
    generalize U.take V.length = U1 at *
    generalize U.drop V.length = U2 at *
    have ha : (P ++ V) ++ (U2 ++ (U1 ++ Q)) = P ++ (V ++ (U2 ++ (U1 ++ Q))) := by simp
    (repeat' first | with_reducible (first | intro _ | refine rc ?_ | refine rl ?_ | refine rh ?_ | refine ru ?_ | refine rt ?_ | refine rf ?_ | refine rs ?_ | refine And.intro ?_ ?_) | omega | simp (maxSteps := 1000000) only [go_sem, simprocAttr, ↓reduceIte, j1, hne])
    refine VcCall.io [0] k (by decide) (by simp [renL, ren, ioN]) rfl (by simp [subOk, ioN, lk, Item.ren, Item.below, gsR, renR_ok, belowR_ok]) covG1 1 (by decide) rfl (by simp [rowsB, Item.below, gsR, belowR_ok]) ?_
    (repeat' first | with_reducible (first | intro _ | refine rc ?_ | refine rl ?_ | refine rh ?_ | refine ru ?_ | refine rt ?_ | refine rf ?_ | refine rs ?_ | refine And.intro ?_ ?_) | omega | simp (maxSteps := 1000000) only [go_sem, simprocAttr, ↓reduceIte, S.ioS, ioRows, ioN, delL, Item.ren, gsR, renR_ok, List.length_cons, List.length_nil, List.getElem?_cons_zero, List.getElem?_cons_succ, List.getElem?_nil, List.cons_append, List.nil_append, Nat.reduceAdd, Nat.sub_self, Nat.add_zero, List.filter, j1, j2])
    refine ⟨⟨P ++ V, U2, U1, Q⟩, Ent.autoK 1 rfl (Nat.le_refl 1) ?_ ?_, ⟨by simp; omega, by dsimp only; omega, by dsimp only; omega, by simp; omega, hR'⟩, by dsimp only; omega⟩
    · simp only [go_sem, reduceCtorEq, reduceIte, Nat.reduceEqDiff, Nat.reduceLT, Nat.reduceLeDiff, Int.natCast_succ, fromL, gsR, ha, hl1]
    · simp only [go_sem, reduceCtorEq, reduceIte, Nat.reduceEqDiff, Nat.reduceLT, Nat.reduceLeDiff, Int.natCast_succ, fromL, gsR, ha, hl1]
  · have k : FnIO Tryz.prog 176 [.own 0, .int .i64 P.length, .int .i64 m, .int .i64 U.length, .fn F []] [(0, .row 65 (gsR (P ++ (U ++ (V ++ Q)))))] 1 (.tup []) [(0, .row 65 (gsR (P ++ (V ++ (U ++ Q)))))] := swapRange_io P U [] V Q U.length P.length m F rfl heq rfl (by simp; omega) (by simp; omega)
    have he : (U.length : Int) = (V.length : Int) := by omega
    have hv : (V.length : Int) = (U.length : Int) := by omega
    rw [hR] at k
    (repeat' first | with_reducible (first | intro _ | refine rc ?_ | refine rl ?_ | refine rh ?_ | refine ru ?_ | refine rt ?_ | refine rf ?_ | refine rs ?_ | refine And.intro ?_ ?_) | omega | simp (maxSteps := 1000000) only [go_sem, simprocAttr, ↓reduceIte, j1, hv])
    refine VcCall.io [0] k (by decide) (by simp [renL, ren, ioN]) rfl (by simp [subOk, ioN, lk, Item.ren, Item.below, gsR, renR_ok, belowR_ok]) covG1 1 (by decide) rfl (by simp [rowsB, Item.below, gsR, belowR_ok]) ?_
    (repeat' first | with_reducible (first | intro _ | refine rc ?_ | refine rl ?_ | refine rh ?_ | refine ru ?_ | refine rt ?_ | refine rf ?_ | refine rs ?_ | refine And.intro ?_ ?_) | omega | simp (maxSteps := 1000000) only [go_sem, simprocAttr, ↓reduceIte, S.ioS, ioRows, ioN, delL, Item.ren, gsR, renR_ok, List.length_cons, List.length_nil, List.getElem?_cons_zero, List.getElem?_cons_succ, List.getElem?_nil, List.cons_append, List.nil_append, Nat.reduceAdd, Nat.sub_self, Nat.add_zero, List.filter])
    refine RetK.auto 1 (Nat.le_refl 1) ?_ rfl ?_ <;> simp only [go_sem, reduceCtorEq, reduceIte, Nat.reduceEqDiff, Nat.reduceLT, Nat.reduceLeDiff, Int.natCast_succ, fromL, gsR]
  · have j2 : (V.length : Int) - (U.length : Int) = ((V.take (V.length - U.length)).length : Int) := by rw [List.length_take]; omega
    have j3 : (m : Int) + (V.length : Int) - (U.length : Int) = ((m + (V.take (V.length - U.length)).length : Nat) : Int) := by rw [List.length_take]; omega
    have hr : P ++ (U ++ (V ++ Q)) = P ++ (U ++ (V.take (V.length - U.length) ++ (V.drop (V.length - U.length) ++ Q))) := by
      rw [← List.append_assoc (V.take _), List.take_append_drop]
    have k := swapRange_io P U (V.take (V.length - U.length)) (V.drop (V.length - U.length)) Q U.length P.length (m + (V.take (V.length - U.length)).length) F rfl (by simp; omega) rfl (by omega) (by simp; omega)
    rw [hr]
    have hR' : P ++ (V.take (V.length - U.length) ++ (V.drop (V.length - U.length) ++ (U ++ Q))) = R := by
      rw [← hR, ← List.append_assoc (V.take _), List.take_append_drop]
    have hl1 : (V.take (V.length - U.length)).length = V.length - U.length := by rw [List.length_take]; omega
    have hl2 : (V.drop (V.length - U.length)).length = U.length := by simp; omega
    have hne : ¬ (U.length : Int) = (V.length : Int) := by omega
    generalize V.take (V.length - U.length) = V1 at *
    generalize V.drop (V.length - U.length) = V2 at *
    (repeat' first | with_reducible (first | intro _ | refine rc ?_ | refine rl ?_ | refine rh ?_ | refine ru ?_ | refine rt ?_ | refine rf ?_ | refine rs ?_ | refine And.intro ?_ ?_) | omega | simp (maxSteps := 1000000) only [go_sem, simprocAttr, ↓reduceIte, j1, j3, hne])
    refine VcCall.io [0] k (by decide) (by simp [renL, ren, ioN]) rfl (by simp [subOk, ioN, lk, Item.ren, Item.below, gsR, renR_ok, belowR_ok]) covG1 1 (by decide) rfl (by simp [rowsB, Item.below, gsR, belowR_ok]) ?_
    (repeat' first | with_reducible (first | intro _ | refine rc ?_ | refine rl ?_ | refine rh ?_ | refine ru ?_ | refine rt ?_ | refine rf ?_ | refine rs ?_ | refine And.intro ?_ ?_) | omega | simp (maxSteps := 1000000) only [go_sem, simprocAttr, ↓reduceIte, S.ioS, ioRows, ioN, delL, Item.ren, gsR, renR_ok, List.length_cons, List.length_nil, List.getElem?_cons_zero, List.getElem?_cons_succ, List.getElem?_nil, List.cons_append, List.nil_append, Nat.reduceAdd, Nat.sub_self, Nat.add_zero, List.filter, j2])
    refine ⟨⟨P, V2, V1, U ++ Q⟩, Ent.autoK 1 rfl (Nat.le_refl 1) ?_ ?_, ⟨by dsimp only; omega, by dsimp only; omega, by dsimp only; omega, by simp; omega, hR'⟩, by dsimp only; omega⟩
    · simp only [go_sem, reduceCtorEq, reduceIte, Nat.reduceEqDiff, Nat.reduceLT, Nat.reduceLeDiff, Int.natCast_succ, fromL, gsR, hl2]
    · simp only [go_sem, reduceCtorEq, reduceIte, Nat.reduceEqDiff, Nat.reduceLT, Nat.reduceLeDiff, Int.natCast_succ, fromL, gsR, hl2]
end Go.Fv.Y

/- The stable sort of guesses: the walk of a merge, where one side has one element. -/
namespace Go.Fv.Y
open Go Go.Proofs
set_option linter.unusedSimpArgs false
set_option linter.unusedVariables false
set_option linter.unnecessarySimpa false
set_option maxRecDepth 8000

theorem half_sum (x y : Nat) : shrI .u64 ((x : Int) + (y : Int)) 1 = (((x + y) / 2 : Nat) : Int) := by
  show Int.fdiv _ 2 = _
  rw [Int.fdiv_eq_ediv_of_nonneg _ (by decide)]; omega
set_option maxHeartbeats 16000000 in
theorem symFirst_io (F : Nat) (hF : CmpG F) (P V Q : List Gs) (x : Gs) (a m b : Nat) (ha : a = P.length) (hm : m = P.length + 1) (hb : b = P.length + 1 + V.length) (hV : Srt V) (hS : Stab (x :: V)) (hN : P.length + 1 + V.length + Q.length ≤ 1000000) :
    FnIO Tryz.prog 152 [.own 0, .int .i64 a, .int .i64 m, .int .i64 b, .fn F []] [(0, .row 65 (gsR (P ++ ([x] ++ (V ++ Q)))))] 1 (.tup []) [(0, .row 65 (gsR (P ++ (sortG (x :: V) ++ Q))))] := by
  refine FnIO.of_vc Tryz.func152 rfl (by decide) (by simp [Tryz.f152]) covG1 [] rfl fun w0 T0 _ => ?_
  simp only [Tryz.f152, argEnv]
  generalize hR : sortG (x :: V) = R
  have i1 : (m : Int) - (a : Int) = 1 := by omega
  have hWl : (P ++ ([x] ++ (V ++ Q))).length = P.length + 1 + V.length + Q.length := by simp; omega
  have eV : ∀ g, g < V.length → ((P ++ ([x] ++ (V ++ Q))).map Gs.av).getD (m + g) [] = [.str (gd V g).t, .int .i64 (gd V g).d, .int .i64 (gd V g).c] := fun g hg => by
    rw [gs_elem _ (by omega)]
    have := gd_right (P := P) (U := [x]) Q (V := V) (i := g) (k := m + g) (by simp; omega) hg
    unfold gd at this ⊢
    rw [this]
  have ex : ((P ++ ([x] ++ (V ++ Q))).map Gs.av).getD a [] = [.str x.t, .int .i64 x.d, .int .i64 x.c] := by
    rw [gs_elem _ (by omega)]
    have := gd_left (P := P) (V ++ Q) (U := [x]) (i := 0) (k := a) (by omega) (by simp)
    unfold gd at this
    rw [this]; rfl
  have hW0 : P ++ ([x] ++ (V ++ Q)) = P ++ ((V.take 0 ++ x :: V.drop 0) ++ Q) := by simp
  generalize hW : P ++ ([x] ++ (V ++ Q)) = W at *
  have hWm : (W.map Gs.av).length = P.length + 1 + V.length + Q.length := by rw [List.length_map]; exact hWl
  (repeat' first | with_reducible (first | intro _ | refine rc ?_ | refine rl ?_ | refine rh ?_ | refine rt ?_ | refine rf ?_ | refine rs ?_ | refine And.intro ?_ ?_) | omega | simp (maxSteps := 1000000) only [go_sem, simprocAttr, ↓reduceIte, i1])
  refine VcLoop.intro (fun y : Nat × Nat => ⟨220, [(0, .own 0), (1, .int .i64 a), (2, .int .i64 m), (3, .int .i64 b), (4, .fn F []), (10, .int .i64 (m + y.1 : Nat)), (11, .int .i64 (m + y.2 : Nat))], [(0, .row 65 (gsR W))], 1⟩) (fun y => y.1 ≤ y.2 ∧ y.2 ≤ V.length ∧ (∀ i, i < y.1 → i < V.length → lt0 (gd V i) x) ∧ (∀ i, y.2 ≤ i → i < V.length → ¬ lt0 (gd V i) x)) (fun y => y.2 - y.1) (0, V.length) ?_ ⟨Nat.zero_le _, Nat.le_refl _, fun i h => by omega, fun i h1 h2 => by omega⟩ fun y hy => ?_
  · refine Ent.autoK 1 rfl (Nat.le_refl 1) ?_ ?_ <;> simp only [go_sem, reduceCtorEq, reduceIte, Nat.reduceEqDiff, Nat.reduceLT, Nat.reduceLeDiff, Int.natCast_succ, fromL, gsR]
    all_goals omega
  obtain ⟨al, be⟩ := y
  obtain ⟨h1, h2, h3, h4⟩ := hy
  dsimp only at h1 h2 h3 h4 ⊢
  by_cases hij : al < be
  · have hsh := half_sum (m + al) (m + be)
    have hmid : (m + al + (m + be)) / 2 = m + (al + be) / 2 := by omega
    rw [hmid] at hsh
    have hm1 : al ≤ (al + be) / 2 := by omega
    have hm2 : (al + be) / 2 < be := by omega
    have eg := eV ((al + be) / 2) (by omega)
    have kc := hF (gd V ((al + be) / 2)) x
    generalize hgm : (al + be) / 2 = g at *
    have hc1 : ((m + al : Nat) : Int) < ((m + be : Nat) : Int) := by omega
    (repeat' first | with_reducible (first | intro _ | refine rc ?_ | refine rl ?_ | refine rh ?_ | refine rt ?_ | refine rf ?_ | refine rs ?_ | refine And.intro ?_ ?_) | omega | simp (maxSteps := 1000000) only [go_sem, simprocAttr, ↓reduceIte, hc1])
    refine LetW.inR (InK_u64.2 (by omega)) ?_
    rw [hsh]
    (repeat' first | with_reducible (first | intro _ | refine rc ?_ | refine rl ?_ | refine rh ?_ | refine rt ?_ | refine rf ?_ | refine rs ?_ | refine And.intro ?_ ?_) | omega | simp (maxSteps := 1000000) only [go_sem, simprocAttr, ↓reduceIte, Int.toNat_natCast])
    refine VcDraw.lex [] [] (by kernel_rfl) (by kernel_rfl) ?_
    by_cases hlt0 : lt0 (gd V g) x
    · have hcn := cf_neg hlt0
      have hinv : g + 1 ≤ be ∧ be ≤ V.length ∧ (∀ i, i < g + 1 → i < V.length → lt0 (gd V i) x) ∧ (∀ i, be ≤ i → i < V.length → ¬ lt0 (gd V i) x) := ⟨by omega, h2, fun i hi hl => by
        have := nlt_chain hV (i := i) (j := g) (by omega) (by omega)
        unfold lt0 at *; omega, h4⟩
      generalize cfG (gd V g) x = cv at *
      generalize gd V g = v at *
      (repeat' first | with_reducible (first | intro _ | refine rc ?_ | refine rl ?_ | refine rh ?_ | refine rt ?_ | refine rf ?_ | refine rs ?_ | refine And.intro ?_ ?_) | omega | simp (maxSteps := 1000000) only [go_sem, simprocAttr, ↓reduceIte, Int.toNat_natCast, elemA, eg, ex, gsR])
      refine QV.intro (.int .i64 cv) ?_ ?_
      · (repeat' first | with_reducible (first | intro _ | refine rc ?_ | refine rl ?_ | refine rh ?_ | refine rt ?_ | refine rf ?_ | refine rs ?_ | refine And.intro ?_ ?_) | omega | simp (maxSteps := 1000000) only [go_sem, simprocAttr, ↓reduceIte, Int.toNat_natCast, elemA, eg, ex, gsR])
        refine VcCall.k (kc) ?_
        (repeat' first | with_reducible (first | intro _ | refine rc ?_ | refine rl ?_ | refine rh ?_ | refine rt ?_ | refine rf ?_ | refine rs ?_ | refine And.intro ?_ ?_) | omega | simp (maxSteps := 1000000) only [go_sem, simprocAttr, ↓reduceIte, gsR])
      (repeat' first | with_reducible (first | intro _ | refine rc ?_ | refine rl ?_ | refine rh ?_ | refine rt ?_ | refine rf ?_ | refine rs ?_ | refine And.intro ?_ ?_) | omega | simp (maxSteps := 1000000) only [go_sem, simprocAttr, ↓reduceIte, hcn, gsR])
      refine ⟨(g + 1, be), Ent.autoK 1 rfl (Nat.le_refl 1) ?_ ?_, hinv, by dsimp only; omega⟩ <;> simp only [go_sem, reduceCtorEq, reduceIte, Nat.reduceEqDiff, Nat.reduceLT, Nat.reduceLeDiff, Int.natCast_succ, fromL, gsR]
      all_goals omega
    · have hcn := cf_not hlt0
      have hinv : al ≤ g ∧ g ≤ V.length ∧ (∀ i, i < al → i < V.length → lt0 (gd V i) x) ∧ (∀ i, g ≤ i → i < V.length → ¬ lt0 (gd V i) x) := ⟨hm1, by omega, h3, fun i hi hl => by
        have := nlt_chain hV (i := g) (j := i) hi hl
        exact nlt_trans hlt0 this⟩
      generalize cfG (gd V g) x = cv at *
      generalize gd V g = v at *
      (repeat' first | with_reducible (first | intro _ | refine rc ?_ | refine rl ?_ | refine rh ?_ | refine rt ?_ | refine rf ?_ | refine rs ?_ | refine And.intro ?_ ?_) | omega | simp (maxSteps := 1000000) only [go_sem, simprocAttr, ↓reduceIte, Int.toNat_natCast, elemA, eg, ex, gsR])
      refine QV.intro (.int .i64 cv) ?_ ?_
      · (repeat' first | with_reducible (first | intro _ | refine rc ?_ | refine rl ?_ | refine rh ?_ | refine rt ?_ | refine rf ?_ | refine rs ?_ | refine And.intro ?_ ?_) | omega | simp (maxSteps := 1000000) only [go_sem, simprocAttr, ↓reduceIte, Int.toNat_natCast, elemA, eg, ex, gsR])
        refine VcCall.k (kc) ?_
        (repeat' first | with_reducible (first | intro _ | refine rc ?_ | refine rl ?_ | refine rh ?_ | refine rt ?_ | refine rf ?_ | refine rs ?_ | refine And.intro ?_ ?_) | omega | simp (maxSteps := 1000000) only [go_sem, simprocAttr, ↓reduceIte, gsR])
      (repeat' first | with_reducible (first | intro _ | refine rc ?_ | refine rl ?_ | refine rh ?_ | refine rt ?_ | refine rf ?_ | refine rs ?_ | refine And.intro ?_ ?_) | omega | simp (maxSteps := 1000000) only [go_sem, simprocAttr, ↓reduceIte, hcn, gsR])
      refine ⟨(al, g), Ent.autoK 1 rfl (Nat.le_refl 1) ?_ ?_, hinv, by dsimp only; omega⟩ <;> simp only [go_sem, reduceCtorEq, reduceIte, Nat.reduceEqDiff, Nat.reduceLT, Nat.reduceLeDiff, Int.natCast_succ, fromL, gsR]
  have e : be = al := by omega
  subst e
  have hend : V.take be ++ x :: V.drop be = R := by rw [← hR]; exact merge_first hV hS h3 h4
  have hc1 : ¬ ((m + be : Nat) : Int) < ((m + be : Nat) : Int) := by omega
  have m1 : ((m + be : Nat) : Int) - 1 = ((a + be : Nat) : Int) := by omega
  clear h3 h4 hij
  (repeat' first | with_reducible (first | intro _ | refine rc ?_ | refine rl ?_ | refine rh ?_ | refine rt ?_ | refine rf ?_ | refine rs ?_ | refine And.intro ?_ ?_) | omega | simp (maxSteps := 1000000) only [go_sem, simprocAttr, ↓reduceIte, hc1])
  refine VcLoop.intro (fun k : Nat => ⟨220, [(0, .own 0), (1, .int .i64 a), (2, .int .i64 m), (3, .int .i64 b), (4, .fn F []), (10, .int .i64 (m + be : Nat)), (13, .int .i64 (a + k : Nat))], [(0, .row 65 (gsR (P ++ ((V.take k ++ x :: V.drop k) ++ Q))))], 1⟩) (fun k => k ≤ be) (fun k => be - k) 0 ?_ (Nat.zero_le _) fun k hk => ?_
  · refine Ent.autoK 1 rfl (Nat.le_refl 1) ?_ ?_ <;> simp only [go_sem, reduceCtorEq, reduceIte, Nat.reduceEqDiff, Nat.reduceLT, Nat.reduceLeDiff, Int.natCast_succ, fromL, gsR, hW0]
  have hlk : (P ++ ((V.take k ++ x :: V.drop k) ++ Q)).length = P.length + 1 + V.length + Q.length := by simp; omega
  by_cases hkb : k < be
  · have hkl : k < V.length := by omega
    have hsw : SwapF ((P ++ ((V.take k ++ x :: V.drop k) ++ Q)).map Gs.av) ((P ++ ((V.take (k + 1) ++ x :: V.drop (k + 1)) ++ Q)).map Gs.av) (a + k) (a + (k + 1)) x (gd V k) := by
      refine swapF (A := P ++ V.take k) (B := []) (C := V.drop (k + 1) ++ Q) ?_ ?_ ?_ ?_
      · rw [List.drop_eq_getElem_cons hkl, ← gd_get hkl]; simp
      · rw [List.take_succ_eq_append_getElem hkl, ← gd_get hkl]; simp
      · simp; omega
      · simp; omega
    obtain ⟨hl, hl', e1, e2, s1, s2, t1, t2⟩ := hsw
    generalize gd V k = v at *
    have hc2 : ((a + k : Nat) : Int) < ((a + be : Nat) : Int) := by omega
    have n1 : ((a + k : Nat) : Int) + 1 = ((a + (k + 1) : Nat) : Int) := by omega
    generalize P ++ ((V.take k ++ x :: V.drop k) ++ Q) = W1 at *
    generalize hW2 : P ++ ((V.take (k + 1) ++ x :: V.drop (k + 1)) ++ Q) = W2 at *
    (repeat' first | with_reducible (first | intro _ | refine rc ?_ | refine rl ?_ | refine rh ?_ | refine rt ?_ | refine rf ?_ | refine rs ?_ | refine And.intro ?_ ?_) | omega | simp (maxSteps := 1000000) only [go_sem, simprocAttr, ↓reduceIte, m1, hc2, n1, gsR])
    refine VcDraw.lex [15, 17] [(2, [1]), (3, [1]), (4, [1])] (by kernel_rfl) (by kernel_rfl) ?_
    (repeat' first | with_reducible (first | intro _ | refine rc ?_ | refine rl ?_ | refine rh ?_ | refine rt ?_ | refine rf ?_ | refine rs ?_ | refine And.intro ?_ ?_) | omega | simp (maxSteps := 1000000) only [go_sem, simprocAttr, ↓reduceIte, m1, hc2, n1, gsR, Int.toNat_natCast, elemA, e1, e2, s1, s2, t1, t2])
    refine ⟨k + 1, Ent.autoK 1 rfl (Nat.le_refl 1) ?_ ?_, by omega, by omega⟩ <;> simp only [go_sem, reduceCtorEq, reduceIte, Nat.reduceEqDiff, Nat.reduceLT, Nat.reduceLeDiff, Int.natCast_succ, fromL, gsR, n1, hW2]
  · have e : k = be := by omega
    subst e
    rw [hend]
    have hc2 : ¬ ((a + k : Nat) : Int) < ((a + k : Nat) : Int) := by omega
    (repeat' first | with_reducible (first | intro _ | refine rc ?_ | refine rl ?_ | refine rh ?_ | refine rt ?_ | refine rf ?_ | refine rs ?_ | refine And.intro ?_ ?_) | omega | simp (maxSteps := 1000000) only [go_sem, simprocAttr, ↓reduceIte, m1, hc2])
    refine RetK.auto 1 (Nat.le_refl 1) ?_ rfl ?_ <;> simp only [go_sem, reduceCtorEq, reduceIte, Nat.reduceEqDiff, Nat.reduceLT, Nat.reduceLeDiff, Int.natCast_succ, fromL, gsR]
end Go.Fv.Y
