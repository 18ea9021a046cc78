/-
  A part of the proof of the claim: walks over the program's functions and the plain laws that these need. No condition of its own.
-/
import Derived.Test.YtodlgmmbfbiilaaGreatDoorHJoinCardPart6
import Derived.Test.YtodlgmmbfbiilaaGreatDoorHJoinCardPart4
import Derived.Test.YtodlgmmbfbiilaaGreatDoorHJoinCardPart1
import Derived.Test.YtodlgmmbfbiilaaGreatDoorHJoinCardPart3
import Derived.Test.YtodlgmmbfbiilaaGreatDoorHJoinCardPart5
import Derived.Test.YtodlgmmbfbiilaaGreatDoorFvPart10
/- Pages out of data, in plain words: what is written is read. -/
namespace Go.Fv.H
open Go
set_option linter.unusedSimpArgs false
set_option linter.unusedVariables false
set_option linter.unnecessarySimpa false
theorem rdG_pos {s : Bytes} {n l : Nat} (h : rdG s = some (n, l)) : 1 ≤ l ∧ n ≤ 1048576 := by
 unfold rdG at h
 split at h
 ·rename_i hc; cases h; exact ⟨by omega, hc.2.2.2⟩
 ·cases h
def rnRow (w n : Nat) (ink : Bool) (s : Bytes) : List Bool × Option Bytes :=
 if n < w then
  match h : rdG s with
  | none => ([], none)
  | some (m, l) => if w - n < m - 1 then ([], none) else (List.replicate (m - 1) ink ++ (rnRow w (n + (m - 1)) (!ink) (s.drop l)).1, (rnRow w (n + (m - 1)) (!ink) (s.drop l)).2)
 else ([], some s)
termination_by s.length
decreasing_by
 all_goals
  have h2 := rdG_len h
  have h3 := rdG_pos h
  rw [List.length_drop]; omega
def rnCont (f : Bytes → List Bool × Bool) (q : List Bool × Option Bytes) : List Bool × Bool :=
 match q.2 with
 | none => (q.1, false)
 | some t => (q.1 ++ (f t).1, (f t).2)
def rnPage (w : Nat) : Nat → Bytes → List Bool × Bool
 | 0, _ => ([], true)
 | h + 1, s => rnCont (rnPage w h) (rnRow w 0 false s)
def lnPage : Nat → List Bool → Bytes → List Bool × Bool
 | 0, _, _ => ([], true)
 | h + 1, ab, s =>
  match rdLine true ab s with
  | none => ([], false)
  | some (r, n) => (r ++ (lnPage h r (s.drop n)).1, (lnPage h r (s.drop n)).2)
def plPix (s : Bytes) : List Bool := s.map fun c => decide (c = 49)
def plPage (n : Nat) (s : Bytes) : List Bool × Bool := if s.length < n then ([], false) else (plPix (s.take n), true)
def pgOf (kind : Int) (w h : Nat) (d : Bytes) : List Bool × Bool :=
 if kind = 4 then ((adAt w h d (w * h) (w * h)).P, true) else if kind = 1 then plPage (w * h) (upB d) else if kind = 2 then rnPage w h (upB d) else lnPage h (List.replicate w false) (upB d)
theorem rnRow_end {w n : Nat} (h : ¬ n < w) (ink : Bool) (s : Bytes) : rnRow w n ink s = ([], some s) := by rw [rnRow, if_neg h]
theorem rnRow_none {w n : Nat} (h : n < w) (ink : Bool) {s : Bytes} (hs : rdG s = none) : rnRow w n ink s = ([], none) := by
 rw [rnRow, if_pos h]
 split
 ·rfl
 ·rename_i h2; rw [hs] at h2; cases h2
theorem rnRow_over {w n m l : Nat} (h : n < w) (ink : Bool) {s : Bytes} (hs : rdG s = some (m, l)) (hm : w - n < m - 1) : rnRow w n ink s = ([], none) := by
 rw [rnRow, if_pos h]
 split
 ·rfl
 ·rename_i h2; rw [hs] at h2; cases h2; rw [if_pos hm]
theorem rnRow_some {w n m l : Nat} (h : n < w) (ink : Bool) {s : Bytes} (hs : rdG s = some (m, l)) (hm : ¬ w - n < m - 1) :
  rnRow w n ink s = (List.replicate (m - 1) ink ++ (rnRow w (n + (m - 1)) (!ink) (s.drop l)).1, (rnRow w (n + (m - 1)) (!ink) (s.drop l)).2) := by
 conv => lhs; rw [rnRow]
 rw [if_pos h]
 split
 ·rename_i h2; rw [hs] at h2; cases h2
 ·rename_i h2; rw [hs] at h2; cases h2; rw [if_neg hm]
def expd : Bool → List Int → List Bool
 | _, [] => []
 | ink, n :: l => List.replicate n.toNat ink ++ expd (!ink) l
def sumI (l : List Int) : Int := l.foldr (· + ·) 0
theorem expd_app : ∀ (l : List Int) (ink : Bool) (x : Int), expd ink (l ++ [x]) = expd ink l ++ List.replicate x.toNat (xor ink (decide (l.length % 2 = 1)))
 | [], ink, x => by cases ink <;> simp [expd]
 | y :: l, ink, x => by
  show List.replicate y.toNat ink ++ expd (!ink) (l ++ [x]) = List.replicate y.toNat ink ++ expd (!ink) l ++ _
  rw [expd_app l (!ink) x, List.append_assoc]
  congr 3
  have e : (y :: l).length = l.length + 1 := rfl
  rw [e]
  by_cases h : l.length % 2 = 1
  ·rw [decide_eq_true h, decide_eq_false (by omega)]; cases ink <;> rfl
  ·rw [decide_eq_false h, decide_eq_true (by omega)]; cases ink <;> rfl
theorem sumI_app (l : List Int) (x : Int) : sumI (l ++ [x]) = sumI l + x := by
 induction l with
 | nil => show x + 0 = 0 + x; omega
 | cons y l ih => show y + sumI (l ++ [x]) = y + sumI l + x; rw [ih]; omega
structure RInv2 (row : List Bool) (i : Nat) (l0 : List Int) (x : Int) (ink : Bool) : Prop where
 ink : ink = decide (l0.length % 2 = 1)
 ex : expd false (l0 ++ [x]) = row.take i
 x1 : 1 ≤ x
 nn : ∀ y, y ∈ l0 → 0 ≤ y
 pos : ∀ y, y ∈ l0.drop 1 → 1 ≤ y
 sum : sumI l0 + x = i
theorem take_snoc {row : List Bool} {i : Nat} (h : i < row.length) : row.take (i + 1) = row.take i ++ [row.getD i false] := by
 rw [List.take_succ_eq_append_getElem h, getD_lt h]
theorem set_last (l0 : List Int) (x y : Int) : (l0 ++ [x]).set ((l0 ++ [x]).length - 1) y = l0 ++ [y] := by
 have e : (l0 ++ [x]).length - 1 = l0.length := by simp
 rw [e, List.set_append_right _ _ (Nat.le_refl _), Nat.sub_self]; rfl
theorem getD_last (l0 : List Int) (x : Int) : (l0 ++ [x]).getD ((l0 ++ [x]).length - 1) 0 = x := by
 have e : (l0 ++ [x]).length - 1 = l0.length := by simp
 rw [e, List.getD_eq_getElem?_getD, List.getElem?_append_right (Nat.le_refl _), Nat.sub_self]; rfl
theorem runs_grow {row : List Bool} {i : Nat} (h : i < row.length) {l0 : List Int} {x : Int} {p ink : Bool} (hp : row.getD i false = p) (hi : ink = decide (l0.length % 2 = 1)) (hx : 0 ≤ x) (hpi : p = ink)
  (he : expd false (l0 ++ [x]) = row.take i) (nn : ∀ y, y ∈ l0 → 0 ≤ y) (pos : ∀ y, y ∈ l0.drop 1 → 1 ≤ y) (hs : sumI l0 + x = i) : RInv2 row (i + 1) l0 (x + 1) p := by
 refine ⟨by rw [hpi, hi], ?_, by omega, nn, pos, by omega⟩
 rw [take_snoc h, ← he, expd_app, expd_app, List.append_assoc, hp, hpi, hi]
 congr 1
 have e : (x + 1).toNat = x.toNat + 1 := by omega
 rw [e, List.replicate_succ', Bool.false_xor]
theorem runs_inv2 (row : List Bool) : ∀ i, i < row.length → ∃ l0 x, (runsAt row (i + 1)).1 = l0 ++ [x] ∧ RInv2 row (i + 1) l0 x (runsAt row (i + 1)).2
 | 0, h => by
  have e : runsAt row 1 = runsStep [] false 0 (row.getD 0 false) := rfl
  rw [e]
  cases hp : row.getD 0 false with
  | false =>
   refine ⟨[], 1, rfl, ?_⟩
   exact runs_grow (ink := false) h hp rfl (Int.le_refl 0) rfl (by rfl) (by simp) (by simp) (by rfl)
  | true =>
   refine ⟨[0], 1, rfl, ?_⟩
   exact runs_grow (ink := true) h hp rfl (Int.le_refl 0) rfl (by rfl) (by simp) (by simp) (by rfl)
 | i + 1, h => by
  obtain ⟨l0, x, h1, h2⟩ := runs_inv2 row i (by omega)
  have e : runsAt row (i + 1 + 1) = runsStep (runsAt row (i + 1)).1 (runsAt row (i + 1)).2 (i + 1) (row.getD (i + 1) false) := rfl
  rw [e, h1]
  generalize (runsAt row (i + 1)).2 = ink at h2 ⊢
  cases hp : row.getD (i + 1) false with
  | _ =>
   unfold runsStep
   simp only [if_neg (show ¬ (i + 1 = 0) by omega)]
   split
   ·rename_i hq
    refine ⟨l0, x + 1, ?_, ?_⟩
    ·rw [getD_last, set_last]
    ·exact runs_grow (ink := ink) h hp h2.ink (by have := h2.x1; omega) hq h2.ex h2.nn h2.pos h2.sum
   ·rename_i hq
    refine ⟨l0 ++ [x], 0 + 1, ?_, ?_⟩
    ·rw [getD_last, set_last]
    ·have hlen : (l0 ++ [x]).length = l0.length + 1 := by simp
     have hx := h2.x1
     refine runs_grow (ink := !ink) h hp ?_ (Int.le_refl 0) ?_ ?_ (fun y hy => ?_) (fun y hy => ?_) ?_
     ·rw [hlen, h2.ink]
      by_cases hq : l0.length % 2 = 1
      ·rw [decide_eq_true hq, decide_eq_false (by omega)]; rfl
      ·rw [decide_eq_false hq, decide_eq_true (by omega)]; rfl
     ·revert hq; cases ink <;> simp
     ·rw [expd_app, h2.ex]; simp
     ·rcases List.mem_append.1 hy with hy | hy
      ·exact h2.nn y hy
      ·rw [List.mem_singleton.1 hy]; omega
     ·rw [List.drop_append] at hy
      rcases List.mem_append.1 hy with hy | hy
      ·exact h2.pos y hy
      ·have := List.mem_of_mem_drop hy
       rw [List.mem_singleton.1 this]; omega
     ·rw [sumI_app]; have := h2.sum; omega
end Go.Fv.H
/- Codes of pages are short. -/
namespace Go.Fv.H
open Go
set_option linter.unusedSimpArgs false
set_option linter.unusedVariables false
set_option linter.unnecessarySimpa false
theorem bin_lin : ∀ (f n : Nat), n ≤ f → 1 ≤ n → (binB n).length ≤ n
 | 0, n, h, h1 => by omega
 | f + 1, n, h, h1 => by
  by_cases h2 : n < 2
  ·have : n = 1 := by omega
   subst this; rw [binB_lt (by decide)]; exact Nat.le_refl _
  ·have ih := bin_lin f (n / 2) (by omega) (by omega)
   rw [binB_ge h2, List.length_append]
   simp only [List.length_cons, List.length_nil]
   omega
theorem gam_lin (k : Nat) : (gamB (k + 1)).length ≤ 2 * k + 1 := by
 have := bin_lin (k + 1) (k + 1) (Nat.le_refl _) (by omega)
 rw [gam_len]; omega
theorem near_len (k : Nat) : (nearCs.getD k []).length ≤ 7 := by
 rcases k with _ | _ | _ | _ | _ | _ | _ | k
 all_goals first | decide | exact Nat.zero_le _
theorem step_len {row above : List Bool} (hw : above.length = row.length) {p : Nat} (hp : p ≤ row.length) (ink : Bool) : (lnStep row above p ink).c.length + 7 * p ≤ 7 * (lnStep row above p ink).p := by
 have hs := lnStep_lt hw hp ink
 have h1 := chg_ge hp
 have h2 := chg_le row p
 unfold lnStep at hs ⊢
 split
 ·rename_i hc
  rw [if_pos hc] at hs
  dsimp only at hs ⊢
  have : passC.length = 4 := rfl
  omega
 ·rename_i hc
  rw [if_neg hc] at hs
  split
  ·rename_i hd
   rw [if_pos hd] at hs
   dsimp only at hs ⊢
   have := near_len (chg row p + 3 - chTo above p (!ink))
   omega
  ·rename_i hd
   rw [if_neg hd] at hs
   dsimp only at hs ⊢
   have e : farC.length = 3 := rfl
   have g1 := gam_lin (chg row p - (p - 1))
   have g2 := gam_lin (chg row (chg row p + 1) - chg row p)
   rw [List.length_append, List.length_append, e]
   have h3 : chg row p ≤ chg row (chg row p + 1) := by
    by_cases h : chg row p < row.length
    ·have := chg_ge (r := row) (i := chg row p + 1) (by omega); omega
    ·rw [chg_end (r := row) (i := chg row p + 1) (by omega)]; omega
   omega
theorem lineB_len7 {row above : List Bool} (hw : above.length = row.length) : (lineB row above).length ≤ 7 * (row.length + 1) := by
 have key : ∀ (f p : Nat) (ink : Bool), row.length + 1 - p ≤ f → p ≤ row.length + 1 → (lnGo row above p ink).length + 7 * p ≤ 7 * (row.length + 1) := by
  intro f
  induction f with
  | zero => intro p ink h hp; rw [lnGo_end (by omega)]; simp; omega
  | succ f ih =>
   intro p ink h hp1
   by_cases hp : p ≤ row.length
   ·have hs := lnStep_lt hw hp ink
    have hsh := step_len hw hp ink
    rw [lnGo_step hw hp, List.length_append]
    have := ih (lnStep row above p ink).p (lnStep row above p ink).k (by omega) (by omega)
    omega
   ·rw [lnGo_end hp]; simp; omega
 unfold lineB
 split
 ·simp
 ·have := key (row.length + 1) 0 false (by omega) (by omega)
  omega
theorem linesB_len7 {w h : Nat} {p : List Bool} (hp : p.length = w * h) : ∀ y, y ≤ h → (linesB w p y).length ≤ 7 * (w + 1) * y
 | 0, _ => by simp [linesB]
 | y + 1, hy => by
  have h1 := linesB_len7 hp y (by omega)
  have hl := rowP_len hp (y := y) (by omega)
  have h2 := lineB_len7 (row := rowP w p y) (above := upP w p y) (by rw [upP_len hp (by omega), hl])
  rw [hl] at h2
  rw [linesB_succ, List.length_append, Nat.mul_succ]; omega
def sumT (l : List Int) : Nat := (l.map Int.toNat).sum
theorem runsG_sum {l : List Int} (hl : ∀ x, x ∈ l → 0 ≤ x) : (runsG l).length ≤ 2 * sumT l + l.length := by
 induction l with
 | nil => simp [runsG]
 | cons x l ih =>
  have h1 := ih fun y hy => hl y (.tail _ hy)
  have h2 := hl x (.head _)
  have h3 := gam_lin x.toNat
  have e0 : (x + 1).toNat = x.toNat + 1 := by omega
  have e : runsG (x :: l) = gamB (x + 1).toNat ++ runsG l := by unfold runsG; simp
  have es : sumT (x :: l) = x.toNat + sumT l := rfl
  rw [e, List.length_append, List.length_cons, es, e0]; omega
theorem sumT_I {l : List Int} (hl : ∀ x, x ∈ l → 0 ≤ x) : (sumT l : Int) = sumI l := by
 induction l with
 | nil => rfl
 | cons x l ih =>
  have h1 := ih fun y hy => hl y (.tail _ hy)
  have h2 := hl x (.head _)
  have es : sumT (x :: l) = x.toNat + sumT l := rfl
  have ei : sumI (x :: l) = x + sumI l := rfl
  rw [es, ei]; omega
theorem runRow_sum {r : List Bool} (h : 0 < r.length) : sumI (runRow r) = r.length := by
 obtain ⟨l0, x, h1, h2⟩ := runs_inv2 r (r.length - 1) (by omega)
 have e : r.length - 1 + 1 = r.length := by omega
 rw [e] at h1 h2
 have hr : runRow r = l0 ++ [x] := h1
 have := h2.sum
 rw [hr, sumI_app]; exact this
theorem runsB_len3 {w h : Nat} (hw0 : 0 < w) {p : List Bool} (hp : p.length = w * h) : ∀ y, y ≤ h → (runsB w p y).length ≤ 3 * (w + 1) * y
 | 0, _ => by simp [runsB]
 | y + 1, hy => by
  have h1 := runsB_len3 hw0 hp y (by omega)
  have hl := rowP_len hp (y := y) (by omega)
  obtain ⟨h2, h3⟩ := runRow_bd (rowP w p y)
  have h4 := runsG_sum (l := runRow (rowP w p y)) fun x hx => (h3 x hx).1
  have h5 := sumT_I (l := runRow (rowP w p y)) fun x hx => (h3 x hx).1
  have h6 := runRow_sum (r := rowP w p y) (by omega)
  rw [runsB_succ, List.length_append, Nat.mul_succ]
  omega
theorem dataB_short {w h : Nat} {p : List Bool} (g : PgOk w h p) (kind : Int) : (dataB w h p kind).length ≤ 1048580 := by
 have hw0 := g.w0
 have hh := g.h1
 have hwh := g.wh
 have hp := g.p
 have b0 : (w + 1) * h ≤ 1052576 := by rw [Nat.add_mul, Nat.one_mul]; omega
 have b1 : 3 * (w + 1) * h ≤ 3157728 := by rw [Nat.mul_assoc]; omega
 have b2 : 7 * (w + 1) * h ≤ 7368032 := by rw [Nat.mul_assoc]; omega
 have h1 := runsB_len3 hw0 hp h (Nat.le_refl _)
 have h2 := linesB_len7 hp h (Nat.le_refl _)
 have h3 := adB_len w h p
 unfold dataB
 split
 ·rw [packB_len, bitsS_len]; omega
 ·split
  ·omega
  ·split
   ·rw [packB_len]; omega
   ·rw [packB_len]; omega
end Go.Fv.H
/- The reference's reader of adaptive data, in plain words: what it reads is what the other one reads; what is written it reads. -/
namespace Go.Fv.H
open Go
set_option linter.unusedSimpArgs false
set_option linter.unusedVariables false
set_option linter.unnecessarySimpa false
def uaFrom (W H : Nat) : Nat → AD → Nat → List Bool × Bool
 | 0, s, _ => (s.P, decide (s.data = []))
 | k + 1, s, i =>
  if (s.mid (s.c W H i) i).span ≤ (s.mid (s.c W H i) i).code then ((s.mid (s.c W H i) i).P, false)
  else if (s.mid (s.c W H i) i).span < 16777216 then
   (if (s.mid (s.c W H i) i).data = [] then ((s.mid (s.c W H i) i).P, false) else uaFrom W H k (s.mid (s.c W H i) i).norm (i + 1))
  else uaFrom W H k (s.mid (s.c W H i) i) (i + 1)
def uaOut (W H : Nat) (d : Bytes) (n : Nat) : List Bool × Bool := if d.length < 4 then (List.replicate n false, false) else uaFrom W H n (AD.init d n) 0
theorem norm_wide {s : AD} (h : ¬ s.span < 16777216) : s.norm = s := by unfold AD.norm; rw [if_neg h]
theorem uaFrom_len (W H n : Nat) : ∀ (k : Nat) (s : AD) (i : Nat), s.Ok n → (uaFrom W H k s i).1.length = n
 | 0, s, i, h => h.P
 | k + 1, s, i, h => by
  have hm := AD.mid_ok h (ctxP_lt W H s.P ((i % W : Nat) : Int) ((i / W : Nat) : Int)) i
  have hc : s.c W H i = ctxP W H s.P ((i % W : Nat) : Int) ((i / W : Nat) : Int) := rfl
  rw [← hc] at hm
  have hn := AD.norm_ok hm
  unfold uaFrom
  split
  ·exact hm.2.2.2.2.2
  ·split
   ·split
    ·exact hm.2.2.2.2.2
    ·exact uaFrom_len W H n k _ _ hn
   ·rename_i hw
    rw [norm_wide hw] at hn
    exact uaFrom_len W H n k _ _ hn
theorem uaOut_len (W H : Nat) (d : Bytes) (n : Nat) : (uaOut W H d n).1.length = n := by
 unfold uaOut
 split
 ·exact List.length_replicate
 ·exact uaFrom_len W H n n _ 0 (AD.init_ok d n)
theorem uaFrom_ok (W H : Nat) (d : Bytes) (n : Nat) : ∀ (k i : Nat), (uaFrom W H k (adAt W H d n i) i).2 = true → (uaFrom W H k (adAt W H d n i) i).1 = (adAt W H d n (i + k)).P
 | 0, i, _ => rfl
 | k + 1, i, h => by
  have e : adAt W H d n (i + 1) = ((adAt W H d n i).mid ((adAt W H d n i).c W H i) i).norm := rfl
  have ih := uaFrom_ok W H d n k (i + 1)
  rw [e] at ih
  have e2 : i + (k + 1) = i + 1 + k := by omega
  rw [e2]
  unfold uaFrom at h ⊢
  split at h
  ·cases h
  ·rename_i h1
   rw [if_neg h1]
   split at h
   ·rename_i h2
    rw [if_pos h2]
    split at h
    ·cases h
    ·rename_i h3
     rw [if_neg h3]
     exact ih h
   ·rename_i h2
    rw [if_neg h2]
    rw [norm_wide h2] at ih
    exact ih h
theorem uaOut_ok {W H : Nat} {d : Bytes} {n : Nat} (h : (uaOut W H d n).2 = true) : (uaOut W H d n).1 = (adAt W H d n n).P := by
 unfold uaOut at h ⊢
 split at h
 ·cases h
 ·rename_i h1
  rw [if_neg h1]
  have := uaFrom_ok W H d n n 0 h
  rw [Nat.zero_add] at this
  exact this
theorem adAt_mid (W H : Nat) (P : List Bool) (hW : 0 < W) {i : Nat} (hi : i < P.length) :
  ∃ m : AE, m = (aeAt W H P i).mid (ctxP W H P ((i % W : Nat) : Int) ((i / W : Nat) : Int)) (P.getD i false) ∧ m.big ≤ seen W H P P.length i ∧ seen W H P P.length i < m.big + m.span ∧
  (adAt W H (adB W H P) P.length i).mid ((adAt W H (adB W H P) P.length i).c W H i) i = ⟨seen W H P P.length i - m.big, m.span, m.tab, (adB W H P).drop (4 + (aeAt W H P i).sh), P.take (i + 1) ++ List.replicate (P.length - (i + 1)) false⟩ := by
 refine ⟨_, rfl, (seen_mid W H P hi _ rfl).1, (seen_mid W H P hi _ rfl).2, ?_⟩
 have ih := adAt_code W H P hW i (by omega)
 obtain ⟨s1, s2, s3⟩ := seen_in W H P (show i ≤ P.length by omega)
 have hok := aeAt_ok W H P i
 have hc : ctxP W H (P.take i ++ List.replicate (P.length - i) false) ((i % W : Nat) : Int) ((i / W : Nat) : Int) = ctxP W H P ((i % W : Nat) : Int) ((i / W : Nat) : Int) := by
  refine ctxP_eq (Nat.mod_lt _ hW) ?_
  have e : i / W * W + i % W = i := by rw [Nat.mul_comm]; exact Nat.div_add_mod i W
  rw [e, List.take_left' (by rw [List.length_take]; omega)]
 obtain ⟨m1, m2⟩ := seen_mid W H P hi _ rfl
 have hset := part_set hi rfl
 unfold AD.c
 rw [ih]
 dsimp only
 rw [hc]
 generalize ctxP W H P ((i % W : Nat) : Int) ((i / W : Nat) : Int) = c at *
 generalize aeAt W H P i = s at *
 generalize seen W H P P.length i = q at *
 generalize adB W H P = d at *
 generalize P.getD i false = k at *
 have em : (⟨q - s.big, s.span, s.tab, d.drop (4 + s.sh), P.take i ++ List.replicate (P.length - i) false⟩ : AD).m c = s.m c := rfl
 have ek : (⟨q - s.big, s.span, s.tab, d.drop (4 + s.sh), P.take i ++ List.replicate (P.length - i) false⟩ : AD).k c = k := by
  unfold AD.k
  rw [em]
  dsimp only
  unfold AE.mid at m1 m2
  dsimp only at m1 m2
  cases k
  ·simp only [Bool.false_eq_true, if_false] at m1 m2
   rw [decide_eq_false (by omega)]
  ·simp only [if_true] at m1 m2
   have := hok.lo
   rw [decide_eq_true (by omega)]
 unfold AD.mid
 rw [ek, em]
 dsimp only
 rw [hset]
 unfold AE.mid at m1 m2 ⊢
 dsimp only at m1 m2 ⊢
 cases k
 ·simp only [Bool.false_eq_true, if_false]
 ·simp only [if_true] at m1 ⊢
  congr 1
  omega
theorem adB_len4 (W H : Nat) (P : List Bool) : (adB W H P).length = 4 + (aeAt W H P P.length).sh := by unfold adB; exact beB_len _ _
theorem uaFrom_code (W H : Nat) (P : List Bool) (hW : 0 < W) : ∀ (k i : Nat), i + k = P.length → uaFrom W H k (adAt W H (adB W H P) P.length i) i = (P, true)
 | 0, i, h => by
  have e : i = P.length := by omega
  subst e
  show ((adAt W H (adB W H P) P.length P.length).P, _) = _
  rw [adAt_all W H P hW, adAt_code W H P hW P.length (Nat.le_refl _)]
  dsimp only
  rw [List.drop_of_length_le (by rw [adB_len4]; exact Nat.le_refl _)]
  rfl
 | k + 1, i, h => by
  have hi : i < P.length := by omega
  obtain ⟨m, hm0, hm1, hm2, hm⟩ := adAt_mid W H P hW hi
  have e : adAt W H (adB W H P) P.length (i + 1) = ((adAt W H (adB W H P) P.length i).mid ((adAt W H (adB W H P) P.length i).c W H i) i).norm := rfl
  have ih := uaFrom_code W H P hW k (i + 1) (by omega)
  rw [e] at ih
  have ea : aeAt W H P (i + 1) = m.norm := by rw [hm0]; rfl
  have hsh := (seen_in W H P (show i + 1 ≤ P.length from hi)).1
  have e8 : m.sh = (aeAt W H P i).sh := by rw [hm0]; rfl
  have hl := adB_len4 W H P
  unfold uaFrom
  rw [hm] at ih ⊢
  dsimp only
  rw [if_neg (by omega)]
  split
  ·rename_i hs
   have hs2 : (aeAt W H P (i + 1)).sh = (aeAt W H P i).sh + 1 := by rw [ea, ← e8]; unfold AE.norm; rw [if_pos hs]
   rw [if_neg (fun h0 => by
    have := congrArg List.length h0
    rw [List.length_drop, List.length_nil] at this
    omega)]
   exact ih
  ·rename_i hs
   rw [norm_wide (by dsimp only; exact hs)] at ih
   exact ih
theorem uaOut_code (W H : Nat) (P : List Bool) (hW : 0 < W) : uaOut W H (adB W H P) P.length = (P, true) := by
 unfold uaOut
 have hl := adB_len4 W H P
 rw [if_neg (by omega)]
 exact uaFrom_code W H P hW P.length 0 (by omega)
end Go.Fv.H
/- The reading of a page, in plain words. -/
namespace Go.Fv.H
open Go
set_option linter.unusedSimpArgs false
set_option linter.unusedVariables false
set_option linter.unnecessarySimpa false
structure DQ where
 (w h : Nat) (p : List Bool) (e : Int)
def dK (s : Bytes) : Nat := numB (s.take 1)
def dW (s : Bytes) : Nat := numB ((s.drop 1).take 2)
def dH (s : Bytes) : Nat := numB ((s.drop 3).take 2)
def dL (s : Bytes) : Nat := numB ((s.drop 5).take 4)
def dD (s : Bytes) : Bytes := (s.drop 9).take (s.length - 17)
def dPg (s : Bytes) : List Bool × Bool := pgOf (dK s) (dW s) (dH s) (dD s)
def dNo (e : Int) : DQ := ⟨0, 0, [], e⟩
def dGood (s : Bytes) : Prop := (dPg s).2 = true ∧ encB (dW s) (dH s) (dPg s).1 (dK s) = s
instance (s : Bytes) : Decidable (dGood s) := inferInstanceAs (Decidable (_ ∧ _))
def decR (s : Bytes) : DQ :=
 if 2097152 < s.length then dNo 4
 else if s.length < 17 ∨ s.length ≠ 17 + dL s then dNo 8
 else if sumB (s.take (s.length - 8)) ≠ s.drop (s.length - 8) then dNo 14
 else if ¬ (1 ≤ dK s ∧ dK s ≤ 4) then dNo 1
 else if sizeErr (dW s) (dH s) ≠ 0 then dNo (sizeErr (dW s) (dH s))
 else if dGood s then ⟨dW s, dH s, (dPg s).1, 0⟩ else dNo 8
theorem plPage_len {n : Nat} {s : Bytes} (h : (plPage n s).2 = true) : (plPage n s).1.length = n := by
 unfold plPage at h ⊢
 split at h
 ·cases h
 ·rename_i hs
  rw [if_neg hs]
  unfold plPix
  rw [List.length_map, List.length_take]; omega
theorem rnRow_len (w : Nat) : ∀ (f : Nat) (n : Nat) (ink : Bool) (s : Bytes), s.length ≤ f → n ≤ w → ∀ t, (rnRow w n ink s).2 = some t → (rnRow w n ink s).1.length = w - n
 | f, n, ink, s, hf, hn, t, h => by
  by_cases hnw : n < w
  rotate_left
  ·rw [rnRow_end hnw]
   show (0 : Nat) = _; omega
  cases hrd : rdG s with
  | none => rw [rnRow_none hnw ink hrd] at h; cases h
  | some z =>
   obtain ⟨m, l⟩ := z
   by_cases hov : w - n < m - 1
   ·rw [rnRow_over hnw ink hrd hov] at h; cases h
   rw [rnRow_some hnw ink hrd hov] at h ⊢
   have h1 := rdG_pos hrd
   have h2 := rdG_len hrd
   cases f with
   | zero => omega
   | succ f =>
    have ih := rnRow_len w f (n + (m - 1)) (!ink) (s.drop l) (by rw [List.length_drop]; omega) (by omega) t h
    show (List.replicate (m - 1) ink ++ _).length = _
    rw [List.length_append, List.length_replicate, ih]; omega
theorem rnPage_len (w : Nat) : ∀ (h : Nat) (s : Bytes), (rnPage w h s).2 = true → (rnPage w h s).1.length = w * h
 | 0, s, _ => rfl
 | h + 1, s, hq => by
  have e : rnPage w (h + 1) s = rnCont (rnPage w h) (rnRow w 0 false s) := rfl
  rw [e] at hq ⊢
  have hl := rnRow_len w s.length 0 false s (Nat.le_refl _) (Nat.zero_le _)
  generalize rnRow w 0 false s = q at *
  obtain ⟨q1, q2⟩ := q
  cases q2 with
  | none => cases hq
  | some t =>
   have hq2 : (rnPage w h t).2 = true := hq
   have ih := rnPage_len w h t hq2
   have := hl t rfl
   show (q1 ++ (rnPage w h t).1).length = _
   rw [List.length_append, ih, Nat.mul_succ]
   dsimp only at this
   omega
theorem lnPage_len (w : Nat) : ∀ (h : Nat) (ab : List Bool) (s : Bytes), ab.length = w → (lnPage h ab s).2 = true → (lnPage h ab s).1.length = w * h
 | 0, _, _, _, _ => rfl
 | h + 1, ab, s, ha, hq => by
  cases hr : rdLine true ab s with
  | none =>
   have e : lnPage (h + 1) ab s = ([], false) := by
    show (match rdLine true ab s with | none => _ | some (r, n) => _) = _
    rw [hr]
   rw [e] at hq; cases hq
  | some z =>
   obtain ⟨r, n⟩ := z
   have e : lnPage (h + 1) ab s = (r ++ (lnPage h r (s.drop n)).1, (lnPage h r (s.drop n)).2) := by
    show (match rdLine true ab s with | none => _ | some (r, n) => _) = _
    rw [hr]
   rw [e] at hq ⊢
   have hrl := (rdLine_some hr).1
   have ih := lnPage_len w h r (s.drop n) (by omega) hq
   show (r ++ (lnPage h r (s.drop n)).1).length = _
   rw [List.length_append, ih, Nat.mul_succ]; omega
theorem pgOf_len {kind : Int} {w h : Nat} {d : Bytes} (hq : (pgOf kind w h d).2 = true) : (pgOf kind w h d).1.length = w * h := by
 unfold pgOf at hq ⊢
 split at hq
 ·rename_i h4; rw [if_pos h4]; exact (adAt_ok w h d (w * h) (w * h)).P
 ·rename_i h4
  rw [if_neg h4]
  split at hq
  ·rename_i h1; rw [if_pos h1]; exact plPage_len hq
  ·rename_i h1
   rw [if_neg h1]
   split at hq
   ·rename_i h2; rw [if_pos h2]; exact rnPage_len w h _ hq
   ·rename_i h2; rw [if_neg h2]; exact lnPage_len w h _ _ List.length_replicate hq
theorem headB_len (w h : Nat) (p : List Bool) (kind : Int) : (headB w h p kind).length = 9 + (dataB w h p kind).length := by
 unfold headB
 simp only [List.length_append, beB_len]
theorem encB_len (w h : Nat) (p : List Bool) (kind : Int) : (encB w h p kind).length = 17 + (dataB w h p kind).length := by
 unfold encB
 rw [List.length_append, headB_len, sumB_len]; omega
theorem enc_parts (w h : Nat) (p : List Bool) (kind : Int) : encB w h p kind = beB 1 kind.toNat ++ (beB 2 w ++ (beB 2 h ++ (beB 4 (dataB w h p kind).length ++ (dataB w h p kind ++ sumB (headB w h p kind))))) := by
 unfold encB
 generalize sumB (headB w h p kind) = S
 unfold headB
 simp only [List.append_assoc]
theorem take_len {a b : Bytes} {n : Nat} (h : a.length = n) : (a ++ b).take n = a := by rw [← h, List.take_left]
theorem drop_len {a b : Bytes} {n : Nat} (h : a.length = n) : (a ++ b).drop n = b := by rw [← h, List.drop_left]
theorem drop_app {a b : Bytes} {n m : Nat} (h : a.length = n) : (a ++ b).drop (n + m) = b.drop m := by rw [← List.drop_drop, drop_len h]
theorem dD_enc (w h : Nat) (p : List Bool) (kind : Int) : dD (encB w h p kind) = dataB w h p kind := by
 unfold dD
 have hl := encB_len w h p kind
 have e : (encB w h p kind).length - 17 = (dataB w h p kind).length := by omega
 rw [e, enc_parts, show (9 : Nat) = 1 + (2 + (2 + 4)) from rfl, drop_app (beB_len _ _), drop_app (beB_len _ _), drop_app (beB_len _ _), drop_len (beB_len _ _), take_len rfl]
theorem decR_ok {s : Bytes} (h : (decR s).e = 0) : PgOk (decR s).w (decR s).h (decR s).p ∧ (1 ≤ (dK s : Int) ∧ (dK s : Int) ≤ 4) ∧ encB (decR s).w (decR s).h (decR s).p (dK s) = s ∧ s.length ≤ 2097152 := by
 unfold decR at h ⊢
 split at h
 ·cases h
 ·rename_i h1
  rw [if_neg h1]
  split at h
  ·cases h
  ·rename_i h2
   rw [if_neg h2]
   split at h
   ·cases h
   ·rename_i h3
    rw [if_neg h3]
    split at h
    ·cases h
    ·rename_i h4
     rw [if_neg h4]
     split at h
     ·rename_i h5; exact absurd h h5
     ·rename_i h5
      rw [if_neg h5]
      split at h
      ·rename_i h6
       rw [if_pos h6]
       have hz := sizeErr_zero (Classical.not_not.1 h5)
       have e : ((dW s : Int) * (dH s : Int)) = ((dW s * dH s : Nat) : Int) := (Int.natCast_mul _ _).symm
       rw [e] at hz
       refine ⟨⟨by dsimp only; omega, by dsimp only; omega, by dsimp only; omega, by dsimp only; omega, by dsimp only; omega, pgOf_len h6.1⟩, by omega, h6.2, by omega⟩
      ·cases h
def rpOf (kind : Int) (w h : Nat) (d : Bytes) : List Bool × Bool := if kind = 4 then uaOut w h d (w * h) else pgOf kind w h d
def rPg (s : Bytes) : List Bool × Bool := rpOf (dK s) (dW s) (dH s) (dD s)
def rGood (s : Bytes) : Prop := (rPg s).2 = true ∧ encB (dW s) (dH s) (rPg s).1 (dK s) = s
instance (s : Bytes) : Decidable (rGood s) := inferInstanceAs (Decidable (_ ∧ _))
theorem rpOf_len {kind : Int} {w h : Nat} {d : Bytes} (hq : (rpOf kind w h d).2 = true) : (rpOf kind w h d).1.length = w * h := by
 unfold rpOf at hq ⊢
 split at hq
 ·rename_i h4; rw [if_pos h4]; exact uaOut_len w h d (w * h)
 ·rename_i h4; rw [if_neg h4]; exact pgOf_len hq
theorem rGood_eq {s : Bytes} (hw : 0 < dW s) : (rGood s ↔ dGood s) ∧ (rGood s → (rPg s).1 = (dPg s).1) := by
 unfold rGood dGood rPg dPg rpOf
 by_cases h4 : (dK s : Int) = 4
 ·rw [if_pos h4, h4]
  have hp : pgOf 4 (dW s) (dH s) (dD s) = ((adAt (dW s) (dH s) (dD s) (dW s * dH s) (dW s * dH s)).P, true) := by unfold pgOf; rw [if_pos rfl]
  rw [hp]
  dsimp only
  have hn := (adAt_ok (dW s) (dH s) (dD s) (dW s * dH s) (dW s * dH s)).P
  refine ⟨⟨fun ⟨h1, h2⟩ => ⟨rfl, by rw [← uaOut_ok h1]; exact h2⟩, fun ⟨_, h2⟩ => ?_⟩, fun ⟨h1, h2⟩ => uaOut_ok h1⟩
  have hd : dD s = adB (dW s) (dH s) (adAt (dW s) (dH s) (dD s) (dW s * dH s) (dW s * dH s)).P := by
   have e := congrArg dD h2
   rw [dD_enc] at e
   exact e.symm
  generalize (adAt (dW s) (dH s) (dD s) (dW s * dH s) (dW s * dH s)).P = P at *
  rw [hd, ← hn, uaOut_code (dW s) (dH s) P hw]
  exact ⟨rfl, h2⟩
 ·rw [if_neg h4]
  exact ⟨Iff.rfl, fun _ => rfl⟩
end Go.Fv.H
/- shrink.fromAdaptive: the walk. -/
namespace Go.Fv.H
open Go Go.Proofs
set_option linter.unusedSimpArgs false
set_option linter.unusedVariables false
set_option linter.unnecessarySimpa false
set_option maxRecDepth 8000
theorem next_io (d : Bytes) (hd : d.length ≤ 300000000000000) : FnIO Tryz.prog 140 [.ptr 0 0] [(0, .box 9 [.str d])] 1 (.int .u32 (nextB d)) [(0, .box 9 [.str (d.drop 1)])] := by
 refine FnIO.of_vc Tryz.func140 rfl (by decide) (by simp [Tryz.f140]) covB1 [.tmp 1] rfl fun w0 T0 _ => ?_
 simp only [Tryz.f140, argEnv]
 cases d with
 | nil =>
  (repeat' with_reducible first | intro _ | refine rz ?_ | refine ra ?_ ?_ | omega | simp (maxSteps := 9^7) only [go_sem])
  refine RetK.auto 1 (Nat.le_refl 1) ?_ rfl ?_ <;> simp only [go_sem, Int.natCast_succ, fromL, nextB]
  all_goals first | rfl | exact ⟨rfl, rfl⟩
 | cons c d =>
  have h0 : (c :: d = []) = False := eq_false (by simp)
  have hl : (c :: d).length = d.length + 1 := rfl
  have hg : (c :: d).getD 0 0 = c := rfl
  have hdr : ((c :: d).drop 1).take ((c :: d).length - 1) = d := by rw [hl]; simp
  have hdr1 : (c :: d).drop 1 = d := rfl
  have hn : nextB (c :: d) = c.toNat := rfl
  rw [hdr1, hn]
  have hcl : c.toNat < 256 := c.toNat_lt
  (repeat' with_reducible first | intro _ | refine rz ?_ | refine ra ?_ ?_ | omega | simp (maxSteps := 9^7) only [go_sem, h0, hg, hdr, hl, List.take_length])
  refine RetK.auto 1 (Nat.le_refl 1) ?_ rfl ?_ <;> simp only [go_sem, Int.natCast_succ, fromL]
theorem bits32_nat (a b : Nat) (ha : a < 4294967296) (hb : b < 4294967296) : (BitVec.ofInt 32 (a : Int)).toNat = a ∧ (BitVec.ofInt 32 (b : Int)).toNat = b := by
 rw [BitVec.ofInt_natCast, BitVec.toNat_ofNat, BitVec.ofInt_natCast, BitVec.toNat_ofNat]
 exact ⟨Nat.mod_eq_of_lt (by omega), Nat.mod_eq_of_lt (by omega)⟩
theorem or32 {a c : Nat} (ha : a * 256 < 4294967296) (hc : c < 256) : bitsI .or .u32 ((a * 256 : Nat) : Int) (c : Int) = ((a * 256 + c : Nat) : Int) := by
 obtain ⟨e1, e2⟩ := bits32_nat (a * 256) c (by omega) (by omega)
 show IntKind.u32.wrap (((BitVec.ofInt 32 ((a * 256 : Nat) : Int)) ||| (BitVec.ofInt 32 (c : Int))).toNat : Int) = _
 have h := Nat.two_pow_add_eq_or_of_lt (i := 8) (b := c) (by omega) a
 rw [BitVec.toNat_or, e1, e2, Nat.mul_comm a 256, ← h]
 exact wrap_of_in (InK_u32.2 (by omega))
def cdN (d : Bytes) : Nat → Nat
 | 0 => 0
 | i + 1 => cdN d i * 256 + nextB (d.drop i)
theorem cdN_lt (d : Bytes) : ∀ i, cdN d i < 256 ^ i
 | 0 => Nat.one_pos
 | i + 1 => by
  have h1 := cdN_lt d i
  have h2 := nextB_lt (d.drop i)
  show cdN d i * 256 + nextB (d.drop i) < _
  rw [Nat.pow_succ]; omega
theorem four_cd (d : Bytes) : four d = cdN d 4 := by
 unfold four
 show _ = (((0 * 256 + nextB (d.drop 0)) * 256 + nextB (d.drop 1)) * 256 + nextB (d.drop 2)) * 256 + nextB (d.drop 3)
 rw [List.drop_zero]; omega
theorem adP_rest (W H : Nat) (d : Bytes) (n : Nat) : ∀ i j, i ≤ j → (adAt W H d n i).P.getD j false = false
 | 0, j, _ => by
  show (List.replicate n false).getD j false = false
  rw [List.getD_eq_getElem?_getD, List.getElem?_replicate]; split <;> rfl
 | i + 1, j, h => by
  have ih := adP_rest W H d n i j (by omega)
  have hP : (adAt W H d n (i + 1)).P = (adAt W H d n i).P.set i ((adAt W H d n i).k ((adAt W H d n i).c W H i)) := by
   show (((adAt W H d n i).mid _ i).norm).P = _
   unfold AD.norm
   split <;> rfl
  rw [hP, List.getD_eq_getElem?_getD, List.getElem?_set_ne (by omega), ← List.getD_eq_getElem?_getD]
  exact ih
theorem adAt_data (W H : Nat) (d : Bytes) (n : Nat) : ∀ i, (adAt W H d n i).data.length ≤ d.length
 | 0 => by show (d.drop 4).length ≤ _; rw [List.length_drop]; omega
 | i + 1 => by
  have ih := adAt_data W H d n i
  show (((adAt W H d n i).mid _ i).norm).data.length ≤ _
  unfold AD.norm
  split
  ·show ((adAt W H d n i).data.drop 1).length ≤ _; rw [List.length_drop]; omega
  ·exact ih
theorem wrap32 (x : Int) : IntKind.u32.wrap x = x % 4294967296 := by simp [IntKind.wrap, IntKind.signed, IntKind.bits]
theorem set_getD {α : Type} {l : List α} {i : Nat} {d : α} (h : i < l.length) : l.set i (l.getD i d) = l := by
 apply List.ext_getElem?
 intro j
 rw [List.getElem?_set]
 split
 ·rename_i e
  subst e
  rw [getD_lt h, List.getElem?_eq_getElem h]
 ·rfl
set_option maxHeartbeats 16000000 in
theorem fromAdaptive_ok (w h : Nat) (hw0 : 0 < w) (hw : w ≤ 4000) (hh : h ≤ 4000) (hwh : w * h ≤ 1048576) (d : Bytes) (hd : d.length ≤ 200000000000000) :
  FnOk Tryz.prog 103 [.str d, .int .i64 w, .int .i64 h] (.agg [.int .i64 w, .int .i64 h, .own 0]) [(0, .row 4 (.bools (adAt w h d (w * h) (w * h)).P))] := by
 refine FnOk.of_vc Tryz.func103 rfl (by decide) (by simp [Tryz.f103]) [.cell 6 24] rfl fun w0 T0 _ => ?_
 simp only [Tryz.f103, argEnv]
 have e1 : (w : Int) * (h : Int) = ((w * h : Nat) : Int) := (Int.natCast_mul w h).symm
 obtain ⟨n, hn⟩ : ∃ n, w * h = n := ⟨_, rfl⟩
 rw [hn] at e1 ⊢
 (repeat' with_reducible first | intro _ | refine rz ?_ | refine ra ?_ ?_ | omega | simp (maxSteps := 9^7) only [go_sem, e1])
 refine VcLoop.intro (fun i : Nat => ⟨91, [(23, .int .i64 i), (9, .int .u32 (cdN d i)), (8, .fn 140 [.ptr 0 0]), (7, .ptr 3 0), (6, .ptr 1 0), (3, .ptr 0 0), (1, .int .i64 w), (2, .int .i64 h)], [(0, .box 9 [.str (d.drop i)]), (1, .box 24 [.int .i64 0, .int .i64 0, .nilS]), (2, .row 4 (.bools (List.replicate n false))), (3, .box 24 [.int .i64 w, .int .i64 h, .own 2])], 4⟩) (fun i => i ≤ 4) (fun i => 4 - i) 0 ?_ (Nat.zero_le _) fun i hi => ?_
 ·refine Ent.auto0 rfl ?_ ?_ <;> simp only [go_sem, Int.natCast_succ, cdN]
 by_cases hi4 : i < 4
 ·have f1 : ((i : Int) < 4) = True := eq_true (by omega)
  have hcd : cdN d (i + 1) = cdN d i * 256 + nextB (d.drop i) := rfl
  have hc0 := cdN_lt d i
  have hcp : 256 ^ i ≤ 256 ^ 3 := Nat.pow_le_pow_right (by decide) (by omega)
  rw [show (256 : Nat) ^ 3 = 16777216 from rfl] at hcp
  have kn := next_io (d.drop i) (by rw [List.length_drop]; omega)
  rw [List.drop_drop] at kn
  have hnx := nextB_lt (d.drop i)
  have ho := or32 (a := cdN d i) (c := nextB (d.drop i)) (by omega) hnx
  have hss : shlI .u32 ((cdN d i : Nat) : Int) 8 = ((cdN d i * 256 : Nat) : Int) := by
   unfold shlI
   rw [show (2 : Int) ^ (min (8 : Int).toNat IntKind.u32.bits) = 256 by rfl]; omega
  generalize nextB (d.drop i) = nx at *
  generalize cdN d i = cd at *
  generalize d.drop i = dd at *
  (repeat' with_reducible first | intro _ | refine rz ?_ | refine ra ?_ ?_ | omega | simp (maxSteps := 9^7) only [go_sem, f1, hss])
  refine VcCall.i [0] kn 1 ?_
  (repeat' with_reducible first | intro _ | refine rz ?_ | refine ra ?_ ?_ | omega | simp (maxSteps := 9^7) only [go_sem])
  (repeat' with_reducible first | intro _ | refine rz ?_ | refine ra ?_ ?_ | omega | simp (maxSteps := 9^7) only [go_sem, ho])
  refine ⟨i + 1, Ent.auto0 rfl ?_ ?_, by omega, by omega⟩ <;> simp only [go_sem, Int.natCast_succ, hcd]
 have f1 : ((i : Int) < 4) = False := eq_false (by omega)
 have e : i = 4 := by omega
 subst e
 rw [← four_cd]
 (repeat' with_reducible first | intro _ | refine rz ?_ | refine ra ?_ ?_ | omega | simp (maxSteps := 9^7) only [go_sem, f1])
 refine VcCall.o numbers_ok 1 ?_
 (repeat' with_reducible first | intro _ | refine rz ?_ | refine ra ?_ ?_ | omega | simp (maxSteps := 9^7) only [go_sem])
 refine VcLoop.intro (fun i : Nat => ⟨91, [(35, .int .i64 i), (34, .int .i64 n), (11, .own 4), (10, .int .u32 (adAt w h d n i).span), (9, .int .u32 (adAt w h d n i).code), (8, .fn 140 [.ptr 0 0]), (7, .ptr 3 0), (6, .ptr 1 0), (3, .ptr 0 0), (1, .int .i64 w), (2, .int .i64 h)], [(0, .box 9 [.str (adAt w h d n i).data]), (1, .box 24 [.int .i64 0, .int .i64 0, .nilS]), (2, .row 4 (.bools (adAt w h d n i).P)), (3, .box 24 [.int .i64 w, .int .i64 h, .own 2]), (4, .row 172 (.ints .u32 (natI (adAt w h d n i).tab)))], 5⟩) (fun i => i ≤ n) (fun i => n - i) 0 ?_ (Nat.zero_le _) fun i hi => ?_
 ·refine Ent.auto0 rfl ?_ ?_ <;> simp only [go_sem, Int.natCast_succ]
  all_goals first | rfl | exact ⟨rfl, rfl⟩ | exact ⟨rfl, rfl, rfl⟩ | (refine ⟨?_, ?_⟩ <;> rfl) | trace_state
 have hok := adAt_ok w h d n i
 have hdl := adAt_data w h d n i
 by_cases hlt : i < n
 rotate_left
 ·have f1 : ((i : Int) < (n : Int)) = False := eq_false (by omega)
  have e : i = n := by omega
  subst e
  (repeat' with_reducible first | intro _ | refine rz ?_ | refine ra ?_ ?_ | omega | simp (maxSteps := 9^7) only [go_sem, f1])
  refine Ret.of [(0, 2)] 1 ?_ (by rfl) ?_ <;> simp only [go_sem, Int.natCast_succ, Post]
 have f1 : ((i : Int) < (n : Int)) = True := eq_true (by omega)
 have hw1 : i % w < w := Nat.mod_lt _ hw0
 have hw2 : i / w < h := Nat.div_lt_of_lt_mul (by omega)
 have d1 : (i : Int).tmod (w : Int) = ((i % w : Nat) : Int) := by rw [Int.tmod_eq_emod_of_nonneg (Int.natCast_nonneg _)]; rfl
 have d2 : (i : Int).tdiv (w : Int) = ((i / w : Nat) : Int) := by rw [Int.tdiv_eq_ediv_of_nonneg (Int.natCast_nonneg _)]; rfl
 have hnext : adAt w h d n (i + 1) = ((adAt w h d n i).mid (ctxP w h (adAt w h d n i).P ((i % w : Nat) : Int) ((i / w : Nat) : Int)) i).norm := rfl
 have hPi := adP_rest w h d n i i (Nat.le_refl _)
 have hPs := set_getD (l := (adAt w h d n i).P) (i := i) (d := false) (by rw [hok.P]; exact hlt)
 rw [hPi] at hPs
 obtain ⟨xx, hxx⟩ : ∃ xx, i % w = xx := ⟨_, rfl⟩
 obtain ⟨yy, hyy⟩ : ∃ yy, i / w = yy := ⟨_, rfl⟩
 rw [hxx] at hw1 d1 hnext
 rw [hyy] at hw2 d2 hnext
 have kc := context_ok w h hw hh (adAt w h d n i).P (by rw [hok.P, hn]) (xx : Int) (yy : Int) (by omega) (by omega)
 have hc := ctxP_lt w h (adAt w h d n i).P (xx : Int) (yy : Int)
 have hwne : ¬ (w : Int) = 0 := by omega
 generalize ctxP w h (adAt w h d n i).P (xx : Int) (yy : Int) = c at *
 generalize adAt w h d n i = s at *
 obtain ⟨⟨ht1, ht2⟩, hm1, hm2⟩ := AD.m_ok hok hc
 have hlo := hok.lo
 have hhi := hok.hi
 have hlen := hok.len
 have hcode := hok.code
 have hPl := hok.P
 have hg := natI_at (l := s.tab) (i := c) (by rw [hlen]; exact hc)
 have hgl := natI_len s.tab
 have q1 : ((s.span : Nat) : Int).tdiv 4096 = ((s.span / 4096 : Nat) : Int) := by rw [Int.tdiv_eq_ediv_of_nonneg (Int.natCast_nonneg _)]; rfl
 have q2 : ((s.span / 4096 : Nat) : Int) * ((s.tab.getD c 0 : Nat) : Int) = ((s.m c : Nat) : Int) := (Int.natCast_mul _ _).symm
 (repeat' with_reducible first | intro _ | refine rz ?_ | refine ra ?_ ?_ | omega | simp (maxSteps := 9^7) only [go_sem, f1])
 refine VcDraw.lex [] [] (by kernel_rfl) (by kernel_rfl) ?_
 (repeat' with_reducible first | intro _ | refine rz ?_ | refine ra ?_ ?_ | omega | simp (maxSteps := 9^7) only [go_sem, d1, d2, hwne])
 (refine QV.intro (.int .i64 c) ?_ ?_; focus ((repeat' with_reducible first | intro _ | refine rz ?_ | refine ra ?_ ?_ | omega | simp (maxSteps := 9^7) only [go_sem]); refine VcCall.k (kc) ?_; (repeat' with_reducible first | intro _ | refine rz ?_ | refine ra ?_ ?_ | omega | simp (maxSteps := 9^7) only [go_sem])))
 have hmid := AD.mid_ok hok hc i
 have hmok := AD.norm_ok hmid
 have hmlo := hmok.lo
 obtain ⟨M, hM⟩ : ∃ M, s.mid c i = M := ⟨_, rfl⟩
 have hMt : M.tab = s.tab.set c (lrn (s.tab.getD c 0) (s.k c)) := by rw [← hM]; rfl
 have hMs0 : M.span = if s.k c = true then s.span - s.m c else s.m c := by rw [← hM]; rfl
 have hMc0 : M.code = if s.k c = true then s.code - s.m c else s.code := by rw [← hM]; rfl
 have hMd : M.data = s.data := by rw [← hM]; rfl
 have hMP0 : M.P = s.P.set i (s.k c) := by rw [← hM]; rfl
 rw [hM] at hnext hmlo hmid
 obtain ⟨hmid1, hmid2, hmid3, _, _, _⟩ := hmid
 have kl := learned_ok (s.tab.getD c 0) (s.k c) ⟨ht1, ht2⟩
 have hset := natI_set s.tab c (lrn (s.tab.getD c 0) (s.k c))
 have hlrn := lrn_ok ⟨ht1, ht2⟩ (s.k c)
 by_cases hk : s.m c ≤ s.code
 ·have hkt : s.k c = true := decide_eq_true hk
  rw [hkt] at hMt hMs0 hMc0 hMP0 kl hset hlrn
  rw [if_pos rfl] at hMs0 hMc0
  have hMs : M.span = s.span - s.m c := hMs0
  have hMc : M.code = s.code - s.m c := hMc0
  have hMP : M.P = s.P.set i true := hMP0
  have f2 : ((s.code : Int) < ((s.m c : Nat) : Int)) = False := eq_false (by omega)
  have hspI : (s.span : Int) - (s.m c : Int) = ((s.span - s.m c : Nat) : Int) := by omega
  have hcdI : (s.code : Int) - (s.m c : Int) = ((s.code - s.m c : Nat) : Int) := by omega
  have hPg : (s.P.set i true).getD i false = true := by
   rw [List.getD_eq_getElem?_getD, List.getElem?_set_self (by rw [hPl]; exact hlt)]; rfl
  have hPl2 : (s.P.set i true).length = n := by rw [List.length_set, hPl]
  (repeat' with_reducible first | intro _ | refine rz ?_ | refine ra ?_ ?_ | omega | simp (maxSteps := 9^7) only [go_sem, q1, q2, hg, hgl, hlen, f2, hspI, hcdI])
  refine VcDraw.lex [13] [] (by kernel_rfl) (by kernel_rfl) ?_
  (repeat' with_reducible first | intro _ | refine rz ?_ | refine ra ?_ ?_ | omega | simp (maxSteps := 9^7) only [go_sem, hgl, hlen, hPg, hPl2, hg, hPl])
  (refine QV.intro (.int .u32 (lrn (s.tab.getD c 0) true)) ?_ ?_; focus ((repeat' with_reducible first | intro _ | refine rz ?_ | refine ra ?_ ?_ | omega | simp (maxSteps := 9^7) only [go_sem]); refine VcCall.k (kl) ?_; (repeat' with_reducible first | intro _ | refine rz ?_ | refine ra ?_ ?_ | omega | simp (maxSteps := 9^7) only [go_sem])))
  (repeat' with_reducible first | intro _ | refine rz ?_ | refine ra ?_ ?_ | omega | simp (maxSteps := 9^7) only [go_sem, hgl, hlen, hset])
  refine VcLoop.intro (fun r : AD => ⟨91, [(35, .int .i64 i), (34, .int .i64 n), (11, .own 4), (10, .int .u32 r.span), (9, .int .u32 r.code), (8, .fn 140 [.ptr 0 0]), (7, .ptr 3 0), (6, .ptr 1 0), (3, .ptr 0 0), (1, .int .i64 w), (2, .int .i64 h)], [(0, .box 9 [.str r.data]), (1, .box 24 [.int .i64 0, .int .i64 0, .nilS]), (2, .row 4 (.bools r.P)), (3, .box 24 [.int .i64 w, .int .i64 h, .own 2]), (4, .row 172 (.ints .u32 (natI r.tab)))], 5⟩) (fun r => r = M ∨ r = M.norm) (fun r => if r.span < 16777216 then 1 else 0) M ?_ (.inl rfl) fun r hr => ?_
  ·refine Ent.auto0 rfl ?_ ?_ <;> simp only [go_sem, Int.natCast_succ, hMs, hMt, hMc, hMd, hMP]
   all_goals first | rfl | exact ⟨rfl, rfl⟩
  by_cases hs2 : r.span < 16777216
  ·have hrM : r = M := hr.resolve_right fun e => by rw [e] at hs2; omega
   subst hrM
   have hnm : r.norm = ⟨r.code * 256 % 4294967296 + nextB r.data, r.span * 256, r.tab, r.data.drop 1, r.P⟩ := by unfold AD.norm; rw [if_pos hs2]
   have f5 : ((r.span : Int) < 16777216) = True := eq_true (by omega)
   have hss : shlI .u32 (r.span : Int) 8 = ((r.span * 256 : Nat) : Int) := by
    unfold shlI
    rw [show (2 : Int) ^ (min (8 : Int).toNat IntKind.u32.bits) = 256 by rfl]; omega
   have hsc : shlI .u32 (r.code : Int) 8 = ((r.code * 256 : Nat) : Int) := by
    unfold shlI
    rw [show (2 : Int) ^ (min (8 : Int).toNat IntKind.u32.bits) = 256 by rfl]; omega
   have hwr : IntKind.u32.wrap ((r.code * 256 : Nat) : Int) = ((r.code * 256 % 4294967296 : Nat) : Int) := by rw [wrap32]; omega
   have hmul : r.code * 256 % 4294967296 = r.code % 16777216 * 256 := by omega
   have hnx := nextB_lt r.data
   have ho := or32 (a := r.code % 16777216) (c := nextB r.data) (by omega) hnx
   rw [← hmul] at ho
   have kn := next_io r.data (by rw [hMd]; omega)
   (repeat' with_reducible first | intro _ | refine rz ?_ | refine ra ?_ ?_ | omega | simp (maxSteps := 9^7) only [go_sem, f5, hsc])
   refine LetW.at _ hwr ?_
   (repeat' with_reducible first | intro _ | refine rz ?_ | refine ra ?_ ?_ | omega | simp (maxSteps := 9^7) only [go_sem])
   refine VcCall.i [0] kn 1 ?_
   (repeat' with_reducible first | intro _ | refine rz ?_ | refine ra ?_ ?_ | omega | simp (maxSteps := 9^7) only [go_sem])
   (repeat' with_reducible first | intro _ | refine rz ?_ | refine ra ?_ ?_ | omega | simp (maxSteps := 9^7) only [go_sem, ho, hss])
   refine ⟨r.norm, Ent.auto0 rfl ?_ ?_, .inr rfl, ?_⟩
   ·simp only [go_sem, Int.natCast_succ, hnm]
    all_goals first | rfl | omega | (refine ⟨?_, ?_⟩ <;> first | rfl | omega)
   ·simp only [go_sem, Int.natCast_succ, hnm]
   ·rw [if_pos hs2, if_neg (by omega)]; omega
  ·have hrn : r = M.norm := by
    rcases hr with e | e
    ·rw [e] at hs2 ⊢; unfold AD.norm; rw [if_neg hs2]
    ·exact e
   have f5 : ((r.span : Int) < 16777216) = False := eq_false (by omega)
   rw [← hrn] at hnext
   (repeat' with_reducible first | intro _ | refine rz ?_ | refine ra ?_ ?_ | omega | simp (maxSteps := 9^7) only [go_sem, f5])
   refine ⟨i + 1, Ent.auto0 rfl ?_ ?_, by omega, by omega⟩ <;> simp only [go_sem, Int.natCast_succ, hnext]
 ·have hkt : s.k c = false := decide_eq_false hk
  rw [hkt] at hMt hMs0 hMc0 hMP0 kl hset hlrn
  rw [if_neg (by decide)] at hMs0 hMc0
  have hMs : M.span = s.m c := hMs0
  have hMc : M.code = s.code := hMc0
  have hMP : M.P = s.P := by rw [hMP0, hPs]
  have f2 : ((s.code : Int) < ((s.m c : Nat) : Int)) = True := eq_true (by omega)
  (repeat' with_reducible first | intro _ | refine rz ?_ | refine ra ?_ ?_ | omega | simp (maxSteps := 9^7) only [go_sem, q1, q2, hg, hgl, hlen, f2])
  refine VcDraw.lex [13] [] (by kernel_rfl) (by kernel_rfl) ?_
  (repeat' with_reducible first | intro _ | refine rz ?_ | refine ra ?_ ?_ | omega | simp (maxSteps := 9^7) only [go_sem, hgl, hlen, hg, hPl, hPi])
  (refine QV.intro (.int .u32 (lrn (s.tab.getD c 0) false)) ?_ ?_; focus ((repeat' with_reducible first | intro _ | refine rz ?_ | refine ra ?_ ?_ | omega | simp (maxSteps := 9^7) only [go_sem]); refine VcCall.k (kl) ?_; (repeat' with_reducible first | intro _ | refine rz ?_ | refine ra ?_ ?_ | omega | simp (maxSteps := 9^7) only [go_sem])))
  (repeat' with_reducible first | intro _ | refine rz ?_ | refine ra ?_ ?_ | omega | simp (maxSteps := 9^7) only [go_sem, hgl, hlen, hset])
  refine VcLoop.intro (fun r : AD => ⟨91, [(35, .int .i64 i), (34, .int .i64 n), (11, .own 4), (10, .int .u32 r.span), (9, .int .u32 r.code), (8, .fn 140 [.ptr 0 0]), (7, .ptr 3 0), (6, .ptr 1 0), (3, .ptr 0 0), (1, .int .i64 w), (2, .int .i64 h)], [(0, .box 9 [.str r.data]), (1, .box 24 [.int .i64 0, .int .i64 0, .nilS]), (2, .row 4 (.bools r.P)), (3, .box 24 [.int .i64 w, .int .i64 h, .own 2]), (4, .row 172 (.ints .u32 (natI r.tab)))], 5⟩) (fun r => r = M ∨ r = M.norm) (fun r => if r.span < 16777216 then 1 else 0) M ?_ (.inl rfl) fun r hr => ?_
  ·refine Ent.auto0 rfl ?_ ?_ <;> simp only [go_sem, Int.natCast_succ, hMs, hMt, hMc, hMd, hMP]
   all_goals first | rfl | exact ⟨rfl, rfl⟩
  by_cases hs2 : r.span < 16777216
  ·have hrM : r = M := hr.resolve_right fun e => by rw [e] at hs2; omega
   subst hrM
   have hnm : r.norm = ⟨r.code * 256 % 4294967296 + nextB r.data, r.span * 256, r.tab, r.data.drop 1, r.P⟩ := by unfold AD.norm; rw [if_pos hs2]
   have f5 : ((r.span : Int) < 16777216) = True := eq_true (by omega)
   have hss : shlI .u32 (r.span : Int) 8 = ((r.span * 256 : Nat) : Int) := by
    unfold shlI
    rw [show (2 : Int) ^ (min (8 : Int).toNat IntKind.u32.bits) = 256 by rfl]; omega
   have hsc : shlI .u32 (r.code : Int) 8 = ((r.code * 256 : Nat) : Int) := by
    unfold shlI
    rw [show (2 : Int) ^ (min (8 : Int).toNat IntKind.u32.bits) = 256 by rfl]; omega
   have hwr : IntKind.u32.wrap ((r.code * 256 : Nat) : Int) = ((r.code * 256 % 4294967296 : Nat) : Int) := by rw [wrap32]; omega
   have hmul : r.code * 256 % 4294967296 = r.code % 16777216 * 256 := by omega
   have hnx := nextB_lt r.data
   have ho := or32 (a := r.code % 16777216) (c := nextB r.data) (by omega) hnx
   rw [← hmul, show r.code * 256 % 4294967296 = r.code * 256 by omega] at ho
   rw [show r.code * 256 % 4294967296 = r.code * 256 by omega] at hnm
   have kn := next_io r.data (by rw [hMd]; omega)
   (repeat' with_reducible first | intro _ | refine rz ?_ | refine ra ?_ ?_ | omega | simp (maxSteps := 9^7) only [go_sem, f5, hsc])
   refine VcCall.i [0] kn 1 ?_
   (repeat' with_reducible first | intro _ | refine rz ?_ | refine ra ?_ ?_ | omega | simp (maxSteps := 9^7) only [go_sem])
   (repeat' with_reducible first | intro _ | refine rz ?_ | refine ra ?_ ?_ | omega | simp (maxSteps := 9^7) only [go_sem, ho, hss])
   refine ⟨r.norm, Ent.auto0 rfl ?_ ?_, .inr rfl, ?_⟩
   ·simp only [go_sem, Int.natCast_succ, hnm]
    all_goals first | rfl | omega | (refine ⟨?_, ?_⟩ <;> first | rfl | omega)
   ·simp only [go_sem, Int.natCast_succ, hnm]
   ·rw [if_pos hs2, if_neg (by omega)]; omega
  ·have hrn : r = M.norm := by
    rcases hr with e | e
    ·rw [e] at hs2 ⊢; unfold AD.norm; rw [if_neg hs2]
    ·exact e
   have f5 : ((r.span : Int) < 16777216) = False := eq_false (by omega)
   rw [← hrn] at hnext
   (repeat' with_reducible first | intro _ | refine rz ?_ | refine ra ?_ ?_ | omega | simp (maxSteps := 9^7) only [go_sem, f5])
   refine ⟨i + 1, Ent.auto0 rfl ?_ ?_, by omega, by omega⟩ <;> simp only [go_sem, Int.natCast_succ, hnext]
theorem drop_bools {tab : List Bool} {n : Nat} (h : n < tab.length) : (tab.map AV.bool).drop n = .bool (tab.getD n false) :: (tab.map AV.bool).drop (n + 1) := by
 rw [List.drop_eq_getElem_cons (by simpa using h)]
 simp [List.getD, h]
set_option maxHeartbeats 1000000 in
theorem contains_ok (tab : List Bool) (b : Int) (hl : tab.length = 256) (h0 : 0 ≤ b) (h1 : b < 256) : FnOk Tryz.prog 170 [.cell (tab.map .bool), .int .u8 b] (.bool (tab.getD b.toNat false)) [] := by
 refine FnOk.of_vc Tryz.func170 rfl (by decide) (by simp [Tryz.f170]) [.tmp 4] rfl fun w0 T0 _ => ?_
 simp only [Tryz.f170, argEnv]
 have hd := drop_bools (tab := tab) (n := b.toNat) (by omega)
 simp (maxSteps := 9^7) only [go_sem, Nat.mul_one, hd]
 (repeat' first | (with_reducible refine Asm.intro fun _ => ?_) | ((with_reducible refine Chk.intro ?_ ?_); (· first | omega | (with_reducible refine Chk.intro ?_ ?_ <;> omega) | (simp; done) | (simp; omega))) | ((with_reducible refine LetW.i64 ?_ ?_ ?_); (· omega); (· omega)) | ((with_reducible refine Ite.decide (fun _ => ?_) (fun _ => ?_)) <;> first | (exfalso; omega) | simp (maxSteps := 9^7) only [go_sem]) | ((with_reducible refine Ite.bool (fun _ => ?_) (fun _ => ?_)) <;> simp (maxSteps := 9^7) only [go_sem]) | (with_reducible refine And.intro ?_ ?_))
 refine Ret.auto 0 ?_ rfl ?_ <;> simp only [go_sem, Int.natCast_succ, Post]
theorem z163 : zeroOf Tryz.prog 163 = some (.agg (Array.replicate 256 (.bool false))) := by kernel_rfl
theorem c163 : Tryz.prog.cellsOf 163 = 256 := by kernel_rfl
attribute [go_sem] z163 c163
def asciiAt (s : List UInt8) : Nat → List Bool
 | 0 => List.replicate 256 false
 | i + 1 => (asciiAt s i).set (s.getD i 0).toNat true
theorem asciiAt_len (s : List UInt8) : ∀ i, (asciiAt s i).length = 256
 | 0 => by simp [asciiAt]
 | i + 1 => by simp [asciiAt, asciiAt_len s i]
set_option maxHeartbeats 1000000 in
theorem makeAscii_ok (s : List UInt8) (hs : ∀ i, i < s.length → (s.getD i 0).toNat < 128) : FnOk Tryz.prog 130 [.str s] (.tup [.agg ((asciiAt s s.length).map .bool), .bool true]) [] := by
 refine FnOk.of_vc Tryz.func130 rfl (by decide) (by simp [Tryz.f130]) [.cell 2 163, .tmp 3] rfl fun w0 T0 _ => ?_
 simp only [Tryz.f130, argEnv]
 simp (maxSteps := 9^7) only [go_sem]
 refine VcLoop.intro (fun i : Nat => ⟨21, [(0, .str s), (2, .ptr 0 0), (4, .int .i64 i)], [(0, .box 163 ((asciiAt s i).map .bool))], 1⟩) (fun i => i ≤ s.length) (fun i => s.length - i) 0 ?_ (Nat.zero_le _) fun i hi => ?_
 ·refine Ent.auto0 rfl ?_ ?_ <;> simp only [go_sem, Int.natCast_succ, asciiAt]
 have hlen := asciiAt_len s i
 simp (maxSteps := 9^7) only [go_sem]
 (repeat' first | (with_reducible refine Asm.intro fun _ => ?_) | ((with_reducible refine Chk.intro ?_ ?_); (· first | omega | (with_reducible refine Chk.intro ?_ ?_ <;> omega) | (simp; done) | (simp; omega))) | ((with_reducible refine LetW.i64 ?_ ?_ ?_); (· omega); (· omega)) | ((with_reducible refine Ite.decide (fun _ => ?_) (fun _ => ?_)) <;> first | (exfalso; omega) | simp (maxSteps := 9^7) only [go_sem]) | ((with_reducible refine Ite.bool (fun _ => ?_) (fun _ => ?_)) <;> simp (maxSteps := 9^7) only [go_sem]) | (with_reducible refine And.intro ?_ ?_))
 ·have := hs i (by omega)
  omega
 ·refine ⟨i + 1, Ent.auto0 rfl ?_ ?_, by omega, by omega⟩
  ·simp only [go_sem, Int.natCast_succ]
  ·simp only [go_sem, Int.natCast_succ, asciiAt]
 ·have e : i = s.length := by omega
  subst e
  have e2 : ((asciiAt s s.length).map AV.bool).take 256 = (asciiAt s s.length).map AV.bool := List.take_of_length_le (by simp [hlen])
  have e3 : spl ((asciiAt s s.length).map AV.bool) 0 ((asciiAt s s.length).map AV.bool) = (asciiAt s s.length).map AV.bool := spl_all rfl
  refine Ret.auto 0 ?_ ?_ ?_ <;> simp only [go_sem, Int.natCast_succ, Post, e2, e3]
  simp (maxSteps := 9^7) only [go_sem, e2, hlen, List.length_map]
def cutset : List UInt8 := [97, 98, 99, 100, 101, 102, 103, 104, 105, 106, 107, 108, 109, 110, 111, 112, 113, 114, 115, 116, 117, 118, 119, 120, 121, 122, 48, 49, 50, 51, 52, 53, 54, 55, 56, 57, 45]
theorem cut_small : ∀ i, i < cutset.length → (cutset.getD i 0).toNat < 128 := by decide
end Go.Fv.H
/- strings.Trim at any set of small letters; IsName. -/
namespace Go.Fv.H
open Go Go.Proofs
set_option linter.unusedSimpArgs false
set_option linter.unusedVariables false
set_option linter.unnecessarySimpa false
set_option maxRecDepth 8000
def endOff (p : UInt8 → Bool) (s : List UInt8) : List UInt8 := (s.reverse.dropWhile p).reverse
def inCut (cut : List UInt8) (c : UInt8) : Bool := decide (c ∈ cut)
theorem asciiAt_get (s : List UInt8) (c : UInt8) : ∀ i, i ≤ s.length → (asciiAt s i).getD c.toNat false = decide (c ∈ s.take i)
 | 0, _ => by
  have h : c.toNat < 256 := c.toNat_lt
  rw [List.take_zero]
  show (List.replicate 256 false).getD c.toNat false = _
  rw [List.getD_eq_getElem?_getD, List.getElem?_replicate, if_pos h]
  simp
 | i + 1, h => by
  have ih := asciiAt_get s c i (by omega)
  have hlen := asciiAt_len s i
  have hlt : i < s.length := by omega
  have hc := c.toNat_lt
  have htk := List.take_succ_eq_append_getElem hlt
  rw [htk]
  simp only [asciiAt, List.getD_eq_getElem?_getD] at ih ⊢
  rw [List.getElem?_set]
  have e : s[i]?.getD 0 = s[i] := by simp [hlt]
  rw [e]
  by_cases hq : s[i].toNat = c.toNat
  ·have hq2 : s[i] = c := UInt8.toNat_inj.1 hq
   rw [if_pos hq, if_pos (by rw [hlen]; omega)]
   simp [hq2]
  ·rw [if_neg hq, ih]
   have hq2 : ¬ c = s[i] := fun h => hq (by rw [h])
   rw [Bool.eq_iff_iff, decide_eq_true_eq, decide_eq_true_eq, List.mem_append, List.mem_singleton]
   exact ⟨.inl, fun h => h.elim id fun h => absurd h hq2⟩
theorem last_of2 {s : List UInt8} (h0 : 0 < s.length) : s = s.take (s.length - 1) ++ [s.getD (s.length - 1) 0] := by
 rw [getD_lt (by omega), List.take_append_getElem (by omega), List.take_of_length_le (by omega)]
theorem endOff_snoc (p : UInt8 → Bool) (t : List UInt8) (c : UInt8) : endOff p (t ++ [c]) = if p c = true then endOff p t else t ++ [c] := by
 unfold endOff
 rw [List.reverse_append, List.reverse_singleton, List.singleton_append, List.dropWhile_cons]
 split <;> simp_all
theorem endOff_y {p : UInt8 → Bool} {s : List UInt8} (h0 : 0 < s.length) (h : p (s.getD (s.length - 1) 0) = true) : endOff p (s.take (s.length - 1)) = endOff p s := by
 conv => rhs; rw [last_of2 h0, endOff_snoc, if_pos h]
theorem endOff_n {p : UInt8 → Bool} {s : List UInt8} (h : 0 < s.length → p (s.getD (s.length - 1) 0) = false) : endOff p s = s := by
 by_cases h0 : 0 < s.length
 ·conv => lhs; rw [last_of2 h0, endOff_snoc, if_neg (by rw [h h0]; decide)]
  exact (last_of2 h0).symm
 ·have : s = [] := List.eq_nil_of_length_eq_zero (by omega)
  subst this; rfl
theorem dropW_y {p : UInt8 → Bool} {s : List UInt8} (h0 : 0 < s.length) (h : p (s.getD 0 0) = true) : (s.drop 1).dropWhile p = s.dropWhile p := by
 cases s with
 | nil => simp at h0
 | cons c t =>
  have h' : p c = true := h
  rw [List.dropWhile_cons, if_pos h']; rfl
theorem dropW_n {p : UInt8 → Bool} {s : List UInt8} (h : 0 < s.length → p (s.getD 0 0) = false) : s.dropWhile p = s := by
 cases s with
 | nil => rfl
 | cons c t => rw [List.dropWhile_cons, if_neg (by have := h (by simp); rw [show (c :: t).getD 0 0 = c from rfl] at this; rw [this]; decide)]
theorem dropW_nil {p : UInt8 → Bool} : ∀ {s : List UInt8}, s.dropWhile p = [] ↔ s.all p = true
 | [] => by simp
 | c :: t => by
  rw [List.dropWhile_cons, List.all_cons]
  cases h : p c with
  | true => simpa using dropW_nil
  | false => simp
theorem trim_nil (p : UInt8 → Bool) (s : List UInt8) : (endOff p s).dropWhile p = [] ↔ s.all p = true := by
 rw [dropW_nil]
 unfold endOff
 rw [List.all_reverse, ← dropW_nil]
 have hd : (s.reverse.dropWhile p).dropWhile p = s.reverse.dropWhile p := by
  generalize s.reverse = t
  induction t with
  | nil => rfl
  | cons c t ih =>
   rw [List.dropWhile_cons]
   cases h : p c with
   | true => simpa using ih
   | false => simp [List.dropWhile_cons, h]
 rw [hd, dropW_nil, List.all_reverse]
theorem containsU_ok (tab : List Bool) (hl : tab.length = 256) (c : UInt8) : FnOk Tryz.prog 170 [.cell (tab.map .bool), .int .u8 c.toNat] (.bool (tab.getD c.toNat false)) [] := by
 have h := contains_ok tab c.toNat hl (by omega) (by have := c.toNat_lt; omega)
 rwa [Int.toNat_natCast] at h
set_option maxHeartbeats 1000000 in
theorem trimLeftA_ok (tab : List Bool) (hl : tab.length = 256) (p : UInt8 → Bool) (hp : ∀ c : UInt8, tab.getD c.toNat false = p c) (s : List UInt8) :
  FnOk Tryz.prog 131 [.str s, .cell (tab.map .bool)] (.str (s.dropWhile p)) [] := by
 refine FnOk.of_vc Tryz.func131 rfl (by decide) (by simp [Tryz.f131]) [.tmp 4] rfl fun w0 T0 _ => ?_
 simp only [Tryz.f131, argEnv]
 (repeat' with_reducible first | intro _ | refine rz ?_ | refine ra ?_ ?_ | omega | simp (maxSteps := 9^7) only [go_sem])
 refine VcLoop.intro (fun t : List UInt8 => ⟨16, [(0, .str t), (1, .cell (tab.map .bool))], [], 0⟩) (fun t => t.dropWhile p = s.dropWhile p) (fun t => t.length) s ?_ rfl fun t he => ?_
 ·refine Ent.auto0 rfl ?_ ?_ <;> simp only [go_sem, Int.natCast_succ]
 (repeat' with_reducible first | intro _ | refine rz ?_ | refine ra ?_ ?_ | omega | simp (maxSteps := 9^7) only [go_sem])
 ·have k := containsU_ok tab hl (t.getD 0 0)
  rw [hp] at k
  refine VcCall.fr (args' := [.cell (tab.map .bool), .int .u8 (t.getD 0 0).toNat]) (FnFr.of_ok k rfl rfl) (by simp [argOkL, allOk, argOkN]) 0 rfl (by simp [rowsB]) ?_
  cases hq : p (t.getD 0 0) with
  | true =>
   (repeat' with_reducible first | intro _ | refine rz ?_ | refine ra ?_ ?_ | omega | simp (maxSteps := 9^7) only [go_sem])
   refine ⟨t.drop 1, Ent.auto0 rfl ?_ ?_, ?_, ?_⟩
   ·simp only [go_sem, Int.natCast_succ]
    all_goals first | rfl | exact List.take_of_length_le (by simp)
   ·simp only [go_sem, Int.natCast_succ]
   ·rw [dropW_y (by omega) hq]; exact he
   ·simp; omega
  | false =>
   have e : t = s.dropWhile p := by rw [← he, dropW_n (fun _ => hq)]
   (repeat' with_reducible first | intro _ | refine rz ?_ | refine ra ?_ ?_ | omega | simp (maxSteps := 9^7) only [go_sem])
   refine Ret.auto 0 ?_ rfl ?_ <;> simp only [go_sem, Int.natCast_succ, Post, e]
 ·have e : t = s.dropWhile p := by rw [← he, dropW_n (fun h => by omega)]
  refine Ret.auto 0 ?_ rfl ?_ <;> simp only [go_sem, Int.natCast_succ, Post, e]
set_option maxHeartbeats 1000000 in
theorem trimRightA_ok (tab : List Bool) (hl : tab.length = 256) (p : UInt8 → Bool) (hp : ∀ c : UInt8, tab.getD c.toNat false = p c) (s : List UInt8) :
  FnOk Tryz.prog 132 [.str s, .cell (tab.map .bool)] (.str (endOff p s)) [] := by
 refine FnOk.of_vc Tryz.func132 rfl (by decide) (by simp [Tryz.f132]) [.tmp 4] rfl fun w0 T0 _ => ?_
 simp only [Tryz.f132, argEnv]
 (repeat' with_reducible first | intro _ | refine rz ?_ | refine ra ?_ ?_ | omega | simp (maxSteps := 9^7) only [go_sem])
 refine VcLoop.intro (fun t : List UInt8 => ⟨22, [(0, .str t), (1, .cell (tab.map .bool))], [], 0⟩) (fun t => endOff p t = endOff p s) (fun t => t.length) s ?_ rfl fun t he => ?_
 ·refine Ent.auto0 rfl ?_ ?_ <;> simp only [go_sem, Int.natCast_succ]
 have et : ((t.length : Int) - 1).toNat = t.length - 1 := by omega
 (repeat' with_reducible first | intro _ | refine rz ?_ | refine ra ?_ ?_ | omega | simp (maxSteps := 9^7) only [go_sem, et])
 ·have k := containsU_ok tab hl (t.getD (t.length - 1) 0)
  rw [hp] at k
  refine VcCall.fr (args' := [.cell (tab.map .bool), .int .u8 (t.getD (t.length - 1) 0).toNat]) (FnFr.of_ok k rfl rfl) (by simp [argOkL, allOk, argOkN]) 0 rfl (by simp [rowsB]) ?_
  cases hq : p (t.getD (t.length - 1) 0) with
  | true =>
   (repeat' with_reducible first | intro _ | refine rz ?_ | refine ra ?_ ?_ | omega | simp (maxSteps := 9^7) only [go_sem, et])
   refine ⟨t.take (t.length - 1), Ent.auto0 rfl ?_ ?_, ?_, ?_⟩
   ·simp only [go_sem, Int.natCast_succ, et]
    all_goals rfl
   ·simp only [go_sem, Int.natCast_succ]
   ·rw [endOff_y (by omega) hq]; exact he
   ·simp; omega
  | false =>
   have e : t = endOff p s := by rw [← he, endOff_n (fun _ => hq)]
   (repeat' with_reducible first | intro _ | refine rz ?_ | refine ra ?_ ?_ | omega | simp (maxSteps := 9^7) only [go_sem])
   refine Ret.auto 0 ?_ rfl ?_ <;> simp only [go_sem, Int.natCast_succ, Post, e]
 ·have e : t = endOff p s := by rw [← he, endOff_n (fun h => by omega)]
  refine Ret.auto 0 ?_ rfl ?_ <;> simp only [go_sem, Int.natCast_succ, Post, e]
set_option maxHeartbeats 1000000 in
theorem trimA_ok (s cut : List UInt8) (hc : ∀ i, i < cut.length → (cut.getD i 0).toNat < 128) (h2 : 2 ≤ cut.length) :
  FnOk Tryz.prog 95 [.str s, .str cut] (.str ((endOff (inCut cut) s).dropWhile (inCut cut))) [] := by
 have hlen := asciiAt_len cut cut.length
 have km := makeAscii_ok cut hc
 have hg : ∀ c : UInt8, (asciiAt cut cut.length).getD c.toNat false = inCut cut c := fun c => by
  rw [asciiAt_get cut c _ (Nat.le_refl _), List.take_length]; rfl
 have hne : ¬ cut = [] := fun e => by subst e; simp at h2
 refine FnOk.of_vc Tryz.func95 rfl (by decide) (by simp [Tryz.f95]) [.tmp 4] rfl fun w0 T0 _ => ?_
 simp only [Tryz.f95, argEnv]
 by_cases h0 : s = []
 ·have e : (endOff (inCut cut) []).dropWhile (inCut cut) = [] := rfl
  (repeat' with_reducible first | intro _ | refine rz ?_ | refine ra ?_ ?_ | omega | simp (maxSteps := 9^7) only [go_sem, h0])
  refine Ret.auto 0 ?_ rfl ?_ <;> simp only [go_sem, Int.natCast_succ, Post, e]
 generalize inCut cut = p at *
 (repeat' with_reducible first | intro _ | refine rz ?_ | refine ra ?_ ?_ | omega | simp (maxSteps := 9^7) only [go_sem, h0, hne])
 refine VcCall.fr (args' := [.str cut]) (FnFr.of_ok km (by simp [noRo, noRoL, noRoL_bools]) rfl) (by simp [argOkL, allOk, argOkN]) 0 (by simp [Fv.below, belowL, belowL_bools]) (by simp [rowsB]) ?_
 generalize asciiAt cut cut.length = tab at hlen hg ⊢
 simp (maxSteps := 9^7) only [go_sem]
 have e1 : spl (List.replicate 256 (AV.bool false)) 0 (tab.map .bool) = tab.map .bool := spl_all (by simp [hlen])
 refine Chk.intro (by simp [hlen]) ?_
 rw [e1]
 refine Chk.intro (by omega) ?_
 refine VcCall.fr (args' := [.str s, .cell (tab.map .bool)]) (FnFr.of_ok (trimRightA_ok tab hlen p hg s) rfl rfl) ?_ 0 rfl (by simp [rowsB]) ?_
 ·exact ⟨_, _, rfl, ⟨_, _, ⟨_, _, _, rfl, allOk_bools _ 4 _, rfl⟩, rfl, rfl⟩, rfl⟩
 simp (maxSteps := 9^7) only [go_sem]
 refine VcCall.fr (args' := [.str (endOff p s), .cell (tab.map .bool)]) (FnFr.of_ok (trimLeftA_ok tab hlen p hg (endOff p s)) rfl rfl) ?_ 0 rfl (by simp [rowsB]) ?_
 ·exact ⟨_, _, rfl, ⟨_, _, ⟨_, _, _, rfl, allOk_bools _ 4 _, rfl⟩, rfl, rfl⟩, rfl⟩
 simp (maxSteps := 9^7) only [go_sem]
 refine Ret.auto 0 ?_ rfl ?_ <;> simp only [go_sem, Int.natCast_succ, Post]
def nameB (c : UInt8) : Bool := decide (97 ≤ c.toNat) && decide (c.toNat ≤ 122) || decide (48 ≤ c.toNat) && decide (c.toNat ≤ 57) || decide (c.toNat = 45)
def nameOk (s : List UInt8) : Bool := decide (s ≠ []) && decide (s.length ≤ 40) && (decide (97 ≤ (s.getD 0 0).toNat) && decide ((s.getD 0 0).toNat ≤ 122)) && s.all nameB
set_option maxRecDepth 20000 in
theorem cut_name : ∀ n : Nat, n < 256 → inCut cutset (UInt8.ofNat n) = nameB (UInt8.ofNat n) := by decide
theorem inCut_name : inCut cutset = nameB := funext fun c => by
 have h := cut_name c.toNat c.toNat_lt
 simpa using h
set_option maxHeartbeats 1000000 in
theorem isName_ok (s : List UInt8) : FnOk Tryz.prog 51 [.str s] (.bool (nameOk s)) [] := by
 have k := trimA_ok s cutset cut_small (by decide)
 rw [inCut_name] at k
 have ht := trim_nil nameB s
 have hcut : cutset = [97, 98, 99, 100, 101, 102, 103, 104, 105, 106, 107, 108, 109, 110, 111, 112, 113, 114, 115, 116, 117, 118, 119, 120, 121, 122, 48, 49, 50, 51, 52, 53, 54, 55, 56, 57, 45] := rfl
 unfold nameOk
 generalize endOff nameB s = t at *
 generalize t.dropWhile nameB = t at *
 generalize s.all nameB = a at *
 refine FnOk.of_vc Tryz.func51 rfl (by decide) (by simp [Tryz.f51]) [.tmp 2] rfl fun w0 T0 _ => ?_
 simp only [Tryz.f51, argEnv]
 by_cases h0 : s = []
 ·(repeat' with_reducible first | intro _ | refine rz ?_ | refine ra ?_ ?_ | omega | simp (maxSteps := 9^7) only [go_sem, h0])
  refine Ret.auto 0 ?_ rfl ?_ <;> simp only [go_sem, Int.natCast_succ, Post]
  all_goals simp
 ·have hlp : 0 < s.length := List.length_pos_iff.2 h0
  (repeat' with_reducible first | intro _ | refine rz ?_ | refine ra ?_ ?_ | omega | simp (maxSteps := 9^7) only [go_sem, h0])
  all_goals first
   |(refine VcCall.fr (args' := [.str s, .str cutset]) (FnFr.of_ok k rfl rfl) (by simp [argOkL, allOk, argOkN, cutset]) 0 rfl (by simp [rowsB]) ?_
     (repeat' with_reducible first | intro _ | refine rz ?_ | refine ra ?_ ?_ | omega | simp (maxSteps := 9^7) only [go_sem])
     refine Ret.auto 0 ?_ rfl ?_ <;> simp only [go_sem, Int.natCast_succ, Post])
   |(refine Ret.auto 0 ?_ rfl ?_ <;> simp only [go_sem, Int.natCast_succ, Post])
  all_goals
   rw [Bool.eq_iff_iff]
   simp only [Bool.and_eq_true, decide_eq_true_eq, ht, Bool.false_eq_true, false_iff]
   first
    | exact ⟨fun ha => ⟨⟨⟨h0, by omega⟩, by omega, by omega⟩, ha⟩, fun h => h.2⟩
    |(intro h; omega)
end Go.Fv.H
