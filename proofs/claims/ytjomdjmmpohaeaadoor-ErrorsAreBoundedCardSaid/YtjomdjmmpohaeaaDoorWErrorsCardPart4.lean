/-
  A part of the proof of the claim: walks over the program's functions and the plain laws that these need. No condition of its own.
-/
import Derived.Test.YtjomdjmmpohaeaaDoorWErrorsCardPart3
import Derived.Test.YtjomdjmmpohaeaaDoorFvPart10
import Derived.Test.YtjomdjmmpohaeaaDoorWErrorsCardPart1
/- Swaps by the first byte of what is old, in plain words. -/

namespace Go.Fv.W
open Go
set_option linter.unusedSimpArgs false
set_option linter.unusedVariables false
set_option linter.unnecessarySimpa false

def Sw.zero : Sw := ⟨[], [], 0⟩
def Sw.av (s : Sw) : List AV := [.str s.o, .str s.n, .int .i64 s.c]
def sws (l : List Sw) : RowV := .objs 3 (l.map Sw.av)
instance : FNoId Sw.av := ⟨fun _ => rfl⟩
instance {l : List Sw} : RowNoId (sws l) := inferInstanceAs (RowNoId (.objs 3 (l.map Sw.av)))
abbrev KG := List (UInt8 × List Sw)
def kgK (kg : KG) : List UInt8 := kg.map (·.1)
def kgIns (kg : KG) (s : Sw) : KG := match ixOf (kgK kg) (s.o.getD 0 0) with
  | some j => kg.set j (s.o.getD 0 0, (kg.getD j (0, [])).2 ++ [s])
  | none => kg ++ [(s.o.getD 0 0, [s])]
def grp (kg : KG) : List Sw → KG
  | [] => kg
  | s :: l => grp (kgIns kg s) l
theorem grp_snoc : ∀ (l : List Sw) (kg : KG) (s : Sw), grp kg (l ++ [s]) = kgIns (grp kg l) s
  | [], kg, s => rfl
  | x :: l, kg, s => by simp only [List.cons_append, grp]; exact grp_snoc l _ s
/-- What stands under a byte. -/
def under (l : List Sw) (c : UInt8) : List Sw := l.filter fun s => decide (s.o.getD 0 0 = c)
theorem under_snoc (l : List Sw) (s : Sw) (c : UInt8) : under (l ++ [s]) c = if s.o.getD 0 0 = c then under l c ++ [s] else under l c := by
  unfold under
  rw [List.filter_append]
  split <;> simp_all
structure GrpOk (kg : KG) (l : List Sw) : Prop where
  some : ∀ c j, ixOf (kgK kg) c = some j → ∃ h : j < kg.length, kg[j].2 = under l c
  none : ∀ c, ixOf (kgK kg) c = none → under l c = []
  len : kg.length ≤ l.length
theorem kgK_len (kg : KG) : (kgK kg).length = kg.length := by simp [kgK]
theorem ixOf_lt {α : Type} [DecidableEq α] {l : List α} {x : α} {j : Nat} (h : ixOf l x = some j) : j < l.length := (List.getElem?_eq_some_iff.1 (ixOf_some h)).1
theorem ixOf_app {α : Type} [DecidableEq α] (x y : α) : ∀ l : List α, ixOf (l ++ [y]) x = match ixOf l x with | some j => some j | none => if y = x then some l.length else none
  | [] => by simp [ixOf]
  | z :: l => by
    simp only [List.cons_append, ixOf, ixOf_app x y l]
    split
    · rfl
    · cases h : ixOf l x with
      | some j => simp
      | none =>
        simp only [Option.map_none]
        split
        · simp
        · simp
theorem kgK_set (kg : KG) (j : Nat) (c : UInt8) (r : List Sw) (h : (kgK kg)[j]? = some c) : kgK (kg.set j (c, r)) = kgK kg := by
  unfold kgK at *
  rw [List.map_set]
  obtain ⟨hj, he⟩ := List.getElem?_eq_some_iff.1 h
  conv => rhs; rw [← List.set_getElem_self hj]
  rw [he]
theorem grp_ok {kg : KG} {l : List Sw} (h : GrpOk kg l) (s : Sw) : GrpOk (kgIns kg s) (l ++ [s]) := by
  unfold kgIns
  cases hx : ixOf (kgK kg) (s.o.getD 0 0) with
  | some j =>
    obtain ⟨hj, he⟩ := h.some _ _ hx
    have hk := kgK_set kg j (s.o.getD 0 0) ((kg.getD j (0, [])).2 ++ [s]) (ixOf_some hx)
    refine ⟨fun c i hi => ?_, fun c hc => ?_, by simp; have := h.len; omega⟩
    · rw [hk] at hi
      obtain ⟨h1, h2⟩ := h.some c i hi
      refine ⟨by simpa using h1, ?_⟩
      rw [under_snoc, List.getElem_set]
      by_cases e : j = i
      · subst e
        have hc : s.o.getD 0 0 = c := by
          have e1 := ixOf_some hx
          have e2 := ixOf_some hi
          rw [e1] at e2; exact Option.some.inj e2
        rw [if_pos rfl, if_pos hc, getD_lt hj, he, hc]
      · rw [if_neg e, if_neg, h2]
        intro hc
        rw [hc] at hx
        rw [hx] at hi
        exact e (Option.some.inj hi)
    · rw [hk] at hc
      rw [under_snoc, if_neg, h.none c hc]
      intro e; rw [e] at hx; rw [hx] at hc; cases hc
  | none =>
    have hk : kgK (kg ++ [(s.o.getD 0 0, [s])]) = kgK kg ++ [s.o.getD 0 0] := by simp [kgK]
    refine ⟨fun c i hi => ?_, fun c hc => ?_, by simp; exact h.len⟩
    · rw [hk, ixOf_app] at hi
      cases hq : ixOf (kgK kg) c with
      | some j =>
        rw [hq] at hi; cases hi
        obtain ⟨h1, h2⟩ := h.some c _ hq
        refine ⟨by simp; omega, ?_⟩
        rw [under_snoc, if_neg, List.getElem_append_left h1, h2]
        intro e; rw [e, hq] at hx; cases hx
      | none =>
        rw [hq] at hi
        dsimp only at hi
        split at hi
        · rename_i e
          cases hi
          refine ⟨by simp [kgK_len], ?_⟩
          rw [under_snoc, if_pos e, h.none c hq]
          simp [kgK_len]
        · cases hi
    · rw [hk, ixOf_app] at hc
      cases hq : ixOf (kgK kg) c with
      | some j => rw [hq] at hc; cases hc
      | none =>
        rw [hq] at hc
        dsimp only at hc
        split at hc
        · cases hc
        · rename_i e; rw [under_snoc, if_neg e, h.none c hq]
theorem grp_nil : GrpOk [] [] := ⟨fun c j h => by simp [kgK, ixOf] at h, fun c _ => rfl, Nat.le_refl _⟩
theorem grp_all : ∀ (l : List Sw) (kg : KG) (l0 : List Sw), GrpOk kg l0 → GrpOk (grp kg l) (l0 ++ l)
  | [], kg, l0, h => by simpa [grp] using h
  | s :: l, kg, l0, h => by
    have := grp_all l _ _ (grp_ok h s)
    simpa [grp] using this
theorem grp_is (l : List Sw) : GrpOk (grp [] l) l := by simpa using grp_all l [] [] grp_nil
theorem under_len (l : List Sw) (c : UInt8) : (under l c).length ≤ l.length := List.length_filter_le _ _
theorem swL_len (l : List Mx) : (swL l).length = 2 * l.length := by
  induction l with
  | nil => rfl
  | cons m l ih => simp [swL] at ih ⊢; omega
theorem swL_take (l : List Mx) {i : Nat} (h : i < l.length) (z : Mx) : swL (l.take (i + 1)) = swL (l.take i) ++ [⟨(l.getD i z).f, (l.getD i z).t, (l.getD i z).c⟩, ⟨(l.getD i z).t, (l.getD i z).f, (l.getD i z).c⟩] := by
  unfold swL
  rw [List.take_succ_eq_append_getElem h, getD_lt h, List.flatMap_append]
  simp only [List.flatMap_cons, List.flatMap_nil, List.append_nil]
/-- The map, where its rows are owned, and where they are lent. -/
def kB (c : UInt8) : AV := .int .u8 c.toNat
theorem eqKeyB (a b : UInt8) : eqKey (kB a) (kB b) = decide (a = b) := by
  simp only [kB, eqKey, true_and]
  congr 1
  apply propext
  constructor
  · intro h; apply UInt8.toNat_inj.1; omega
  · rintro rfl; rfl
def kgKs (kg : KG) : List AV := (kgK kg).map kB
def kgVs (kg : KG) : List AV := kg.map fun p => .ro (sws p.2)
theorem getV_own (kg : KG) (b : Nat) (c : UInt8) : getV (kgKs kg) (famN b kg.length) (kB c) = match ixOf (kgK kg) c with | some j => some (.own (j + b)) | none => none := by
  unfold getV kgKs
  rw [keyIdx_map eqKeyB]
  cases h : ixOf (kgK kg) c with
  | none => rfl
  | some j =>
    have := ixOf_lt h
    rw [kgK_len] at this
    simp [famN_get this]
theorem getV_ro (kg : KG) (c : UInt8) : getV (kgKs kg) (kgVs kg) (kB c) = match ixOf (kgK kg) c with | some j => some (.ro (sws (kg.getD j (0, [])).2)) | none => none := by
  unfold getV kgKs kgVs
  rw [keyIdx_map eqKeyB]
  cases h : ixOf (kgK kg) c with
  | none => rfl
  | some j =>
    have := ixOf_lt h
    rw [kgK_len] at this
    simp [getD_lt this, this]
end Go.Fv.W

/- The table of distances, in plain words. -/

namespace Go.Fv.W
open Go
set_option linter.unusedSimpArgs false
set_option linter.unusedVariables false
set_option linter.unnecessarySimpa false

def cellD (sw : List Sw) (a b : List UInt8) (k : Nat) : Int := dist sw (a.drop (k / (b.length + 1))) (b.drop (k % (b.length + 1)))
def tab (sw : List Sw) (a b : List UInt8) (p : Nat) : List Int := (List.range ((a.length + 1) * (b.length + 1))).map fun k => if p ≤ k then cellD sw a b k else 0
theorem tab_len (sw : List Sw) (a b : List UInt8) (p : Nat) : (tab sw a b p).length = (a.length + 1) * (b.length + 1) := by simp [tab]
theorem tab_get {sw : List Sw} {a b : List UInt8} {p k : Nat} (h : k < (a.length + 1) * (b.length + 1)) (hp : p ≤ k) : (tab sw a b p).getD k 0 = cellD sw a b k := by
  rw [getD_lt (by rw [tab_len]; exact h)]
  simp [tab, hp]
theorem tab_all (sw : List Sw) (a b : List UInt8) : tab sw a b ((a.length + 1) * (b.length + 1)) = List.replicate ((a.length + 1) * (b.length + 1)) 0 := by
  refine List.ext_getElem (by simp [tab]) fun i h1 h2 => ?_
  simp only [tab, List.length_map, List.length_range] at h1
  simp [tab]; omega
theorem tab_set {sw : List Sw} {a b : List UInt8} {p : Nat} {v : Int} (hv : v = cellD sw a b p) : (tab sw a b (p + 1)).set p v = tab sw a b p := by
  refine List.ext_getElem (by simp [tab]) fun i h1 h2 => ?_
  rw [List.getElem_set]
  split
  · rename_i e; subst e; simp [tab, hv]
  · rename_i e
    simp only [tab, List.getElem_map, List.getElem_range]
    by_cases h : p ≤ i
    · rw [if_pos (by omega), if_pos h]
    · rw [if_neg (by omega), if_neg h]
theorem cellD_at (sw : List Sw) (a b : List UInt8) {i j : Nat} (h : j < b.length + 1) : cellD sw a b (i * (b.length + 1) + j) = dist sw (a.drop i) (b.drop j) := by
  unfold cellD
  have h1 : (i * (b.length + 1) + j) / (b.length + 1) = i := by
    rw [Nat.mul_comm, Nat.mul_add_div (by omega), Nat.div_eq_of_lt h, Nat.add_zero]
  have h2 : (i * (b.length + 1) + j) % (b.length + 1) = j := by
    rw [Nat.mul_comm, Nat.mul_add_mod, Nat.mod_eq_of_lt h]
  rw [h1, h2]

/-- The least of some values, those that fit. -/
def minF (f : Sw → Bool) (g : Sw → Int) : Int → List Sw → Int
  | b, [] => b
  | b, s :: l => minF f g (if f s then min b (g s) else b) l
theorem minF_le (f : Sw → Bool) (g : Sw → Int) : ∀ (l : List Sw) (b : Int), minF f g b l ≤ b ∧ ∀ s, s ∈ l → f s = true → minF f g b l ≤ g s
  | [], b => ⟨Int.le_refl _, fun s h => by cases h⟩
  | x :: l, b => by
    obtain ⟨h1, h2⟩ := minF_le f g l (if f x then min b (g x) else b)
    simp only [minF]
    refine ⟨?_, fun s hs hf => ?_⟩
    · by_cases hf : f x = true
      · rw [if_pos hf] at *; omega
      · rw [if_neg hf] at *; omega
    · cases List.mem_cons.1 hs with
      | inl e => subst e; rw [if_pos hf] at *; omega
      | inr e => exact h2 s e hf
theorem minF_mem (f : Sw → Bool) (g : Sw → Int) : ∀ (l : List Sw) (b : Int), minF f g b l = b ∨ ∃ s, s ∈ l ∧ f s = true ∧ minF f g b l = g s
  | [], b => .inl rfl
  | x :: l, b => by
    simp only [minF]
    rcases minF_mem f g l (if f x then min b (g x) else b) with h | ⟨s, h1, h2, h3⟩
    · split at h
      · rename_i hf
        rcases Int.le_total b (g x) with hle | hle
        · rw [Int.min_eq_left hle] at h; left; rw [if_pos hf, Int.min_eq_left hle]; exact h
        · rw [Int.min_eq_right hle] at h; right; exact ⟨x, .head _, hf, by rw [if_pos hf, Int.min_eq_right hle]; exact h⟩
      · rename_i hf; left; rw [if_neg hf]; exact h
    · exact .inr ⟨s, .tail _ h1, h2, h3⟩
def fits (x y : List UInt8) (s : Sw) : Bool := s.o.isPrefixOf x && s.n.isPrefixOf y
def by_ (sw : List Sw) (x y : List UInt8) (s : Sw) : Int := s.c + dist sw (x.drop s.o.length) (y.drop s.n.length)
theorem pre_head {o x : List UInt8} (ho : o ≠ []) (h : o.isPrefixOf x = true) : o.getD 0 0 = x.getD 0 0 := by
  obtain ⟨z, rfl⟩ := List.isPrefixOf_iff_prefix.1 h
  cases o with
  | nil => exact absurd rfl ho
  | cons c o => rfl
theorem dist_prog {sw : List Sw} (hg : GoodSw sw) {x y : List UInt8} (hx : x ≠ []) (hy : y ≠ []) :
    minF (fits x y) (by_ sw x y) (if x.getD 0 0 = y.getD 0 0 then min (100 + min (min (dist sw (x.drop 1) (y.drop 1)) (dist sw (x.drop 1) y)) (dist sw x (y.drop 1))) (dist sw (x.drop 1) (y.drop 1)) else 100 + min (min (dist sw (x.drop 1) (y.drop 1)) (dist sw (x.drop 1) y)) (dist sw x (y.drop 1))) (under sw (x.getD 0 0)) = dist sw x y := by
  have hd : ∀ l : List UInt8, l.headD 0 = l.getD 0 0 := fun l => by cases l <;> rfl
  have h11 := dist_le hg (x := x) (y := y) (s := ⟨1, 1, 100⟩) (by simp [steps, hx, hy])
  have h10 := dist_le hg (x := x) (y := y) (s := ⟨1, 0, 100⟩) (by simp [steps, hx])
  have h01 := dist_le hg (x := x) (y := y) (s := ⟨0, 1, 100⟩) (by simp [steps, hy])
  simp only [List.drop_zero] at h10 h01 h11
  have hsw : ∀ s, s ∈ sw → fits x y s = true → (⟨s.o.length, s.n.length, s.c⟩ : St) ∈ steps sw x y := by
    intro s hs hf
    simp only [fits] at hf
    have : (⟨s.o.length, s.n.length, s.c⟩ : St) ∈ swSteps sw x y := List.mem_map.2 ⟨s, List.mem_filter.2 ⟨hs, hf⟩, rfl⟩
    simp [steps, this]
  generalize hb0 : (if x.getD 0 0 = y.getD 0 0 then min (100 + min (min (dist sw (x.drop 1) (y.drop 1)) (dist sw (x.drop 1) y)) (dist sw x (y.drop 1))) (dist sw (x.drop 1) (y.drop 1)) else 100 + min (min (dist sw (x.drop 1) (y.drop 1)) (dist sw (x.drop 1) y)) (dist sw x (y.drop 1))) = b0
  obtain ⟨m1, m2⟩ := minF_le (fits x y) (by_ sw x y) (under sw (x.getD 0 0)) b0
  have hge : dist sw x y ≤ b0 := by
    rw [← hb0]
    split
    · rename_i e
      have := dist_le hg (steps_eq (sw := sw) hx hy (by rw [hd, hd]; exact e))
      simp only at this
      omega
    · omega
  have hle : minF (fits x y) (by_ sw x y) b0 (under sw (x.getD 0 0)) ≤ dist sw x y := by
    obtain ⟨s, hs, he⟩ := dist_step hg (x := x) (y := y) (fun e => hx e.1)
    rcases step_cases hs with ⟨h1, h2, h3, rfl⟩ | ⟨q, h1, h2, h3, rfl⟩ | ⟨h1, h2, rfl⟩ | ⟨h1, rfl⟩ | ⟨h1, rfl⟩
    · rw [hd, hd] at h3
      rw [if_pos h3] at hb0
      simp only at he
      omega
    · have hq : q ∈ under sw (x.getD 0 0) := List.mem_filter.2 ⟨h1, by simpa using pre_head (hg.o q h1) h2⟩
      have := m2 q hq (by simp [fits, h2, h3])
      simp only [by_] at this
      simp only at he
      omega
    · simp only at he
      have : b0 ≤ 100 + dist sw (x.drop 1) (y.drop 1) := by rw [← hb0]; split <;> omega
      omega
    · simp only [List.drop_zero] at he
      have : b0 ≤ 100 + dist sw (x.drop 1) y := by rw [← hb0]; split <;> omega
      omega
    · simp only [List.drop_zero] at he
      have : b0 ≤ 100 + dist sw x (y.drop 1) := by rw [← hb0]; split <;> omega
      omega
  rcases minF_mem (fits x y) (by_ sw x y) (under sw (x.getD 0 0)) b0 with h | ⟨s, h1, h2, h3⟩
  · omega
  · have := dist_le hg (hsw s (List.mem_filter.1 h1).1 h2)
    simp only [by_] at h3
    simp only at this
    omega
end Go.Fv.W

namespace Go.Fv.W
open Go Go.Proofs
set_option linter.unusedSimpArgs false
set_option linter.unusedVariables false
set_option linter.unnecessarySimpa false
set_option maxRecDepth 8000

def Mx.av (m : Mx) : List AV := [.str m.f, .str m.t, .int .i64 m.c]
def Mx.zero : Mx := ⟨[], [], 0⟩
def mxs (l : List Mx) : RowV := .objs 3 (l.map Mx.av)
theorem mx_elem (l : List Mx) {i : Nat} (h : i < l.length) : (l.map Mx.av).getD i [] = [.str (l.getD i Mx.zero).f, .str (l.getD i Mx.zero).t, .int .i64 (l.getD i Mx.zero).c] := by
  rw [getD_lt (by simpa using h), getD_lt h, List.getElem_map]; rfl
theorem laidOut : laidOutB Tryd.prog = true := by kernel_rfl
theorem keyed2 : Maps.Keyed Tryd.prog 79 := keyed_deep laidOut (of_decide_eq_true (by kernel_rfl)) (by kernel_rfl) (by rw [Tryd.underlying79])
theorem key2T (k : Key) : KeyT Tryd.prog 79 (key2 k) := KeyT.strs2 Tryd.underlying79 Tryd.underlying9 (by kernel_rfl) c79 c9 (of_decide_eq_true (by kernel_rfl)) k.1 k.2
theorem key2Ts (l : List Key) : KeysT Tryd.prog 79 (l.map key2) := KeysT_map key2T l

theorem part_ok (s : List UInt8) : FnOk Tryd.prog 41 [.str s] (.bool (partOk s)) [] := by
  have e : partOk s = decide (1 ≤ (s.length : Int) ∧ (s.length : Int) ≤ 3) := by
    unfold partOk
    rw [← Bool.decide_and]; congr 1; apply propext; omega
  rw [e]
  refine FnOk.of_vc Tryd.func41 rfl (by decide) (by simp [Tryd.f41]) [.tmp 2] rfl fun w0 T0 _ => ?_
  simp only [Tryd.f41, argEnv]
  (repeat' first | (with_reducible refine Asm.intro fun _ => ?_) | ((with_reducible refine Chk.intro ?_ ?_); (· first | omega | (with_reducible refine Chk.intro ?_ ?_ <;> omega) | (simp; done) | (simp; omega))) | (with_reducible refine AnyI.i64 fun _ _ => ?_) | ((with_reducible refine LetW.i64 ?_ ?_ ?_); (· omega); (· omega)) | ((with_reducible refine Ite.decide (fun _ => ?_) (fun _ => ?_)) <;> first | (exfalso; omega) | skip) | (with_reducible refine Ite.bool (fun _ => ?_) (fun _ => ?_)) | (with_reducible refine And.intro ?_ ?_) | omega | simp (maxSteps := 1000000) only [go_sem, reduceCtorEq, Nat.reduceLT, Nat.reduceLeDiff, reduceIte, ↓reduceIte, Nat.reduceEqDiff, Nat.reduceAdd, Nat.reduceMul, Nat.reduceSub, Int.reduceLE, Int.reduceLT, Int.reduceNeg, Int.reduceToNat])
  refine Ret.auto 0 ?_ rfl ?_ <;> simp only [go_sem, reduceCtorEq, reduceIte, Nat.reduceEqDiff, Nat.reduceLT, Nat.reduceLeDiff, Int.natCast_succ, Post]

def seenK (l : List Mx) (i : Nat) : List Key := (l.take i).map Mx.key
theorem seenK_succ (l : List Mx) {i : Nat} (h : i < l.length) : seenK l (i + 1) = seenK l i ++ [(l.getD i Mx.zero).key] := by
  unfold seenK
  rw [List.take_succ_eq_append_getElem h, List.map_append, getD_lt h]; rfl
theorem mixEs_drop (l : List Mx) {i : Nat} (h : i < l.length) (s : List Key) : mixEs s (l.drop i) = if mixE s (l.getD i Mx.zero) = 0 then mixEs (s ++ [(l.getD i Mx.zero).key]) (l.drop (i + 1)) else mixE s (l.getD i Mx.zero) := by
  rw [List.drop_eq_getElem_cons h, getD_lt h]; rfl
theorem insE_new {α : Type} [DecidableEq α] {l : List α} {x : α} (h : x ∉ l) : insE l x = l ++ [x] := if_neg h

set_option maxHeartbeats 4000000 in
theorem checkMixes_ok (l : List Mx) : FnOk Tryd.prog 12 [.ro (mxs l)] (.int .i64 (mixErr l)) [] := by
  unfold mixErr
  refine FnOk.of_vc Tryd.func12 rfl (by decide) (by simp [Tryd.f12]) [.tmp 2] rfl fun w0 T0 _ => ?_
  simp only [Tryd.f12, argEnv]
  (repeat' first | (with_reducible refine Asm.intro fun _ => ?_) | ((with_reducible refine Chk.intro ?_ ?_); (· first | omega | (with_reducible refine Chk.intro ?_ ?_ <;> omega) | (simp; done) | (simp; omega))) | (with_reducible refine AnyI.i64 fun _ _ => ?_) | ((with_reducible refine LetW.i64 ?_ ?_ ?_); (· omega); (· omega)) | ((with_reducible refine Ite.decide (fun _ => ?_) (fun _ => ?_)) <;> first | (exfalso; omega) | skip) | (with_reducible refine Ite.bool (fun _ => ?_) (fun _ => ?_)) | (with_reducible refine And.intro ?_ ?_) | omega | simp (maxSteps := 1000000) only [go_sem, reduceCtorEq, Nat.reduceLT, Nat.reduceLeDiff, reduceIte, ↓reduceIte, Nat.reduceEqDiff, Nat.reduceAdd, Nat.reduceMul, Nat.reduceSub, Int.reduceLE, Int.reduceLT, Int.reduceNeg, Int.reduceToNat, List.length_map, mxs])
  · refine Ret.auto 0 ?_ rfl ?_ <;> simp only [go_sem, reduceCtorEq, reduceIte, Nat.reduceEqDiff, Nat.reduceLT, Nat.reduceLeDiff, Int.natCast_succ, Post]
    rw [if_pos (by omega)]
  rw [if_neg (by omega)]
  refine VcLoop.intro (fun i : Nat => ⟨59, [(14, .int .i64 i), (13, .int .i64 l.length), (12, .ro (mxs l)), (3, .own 0), (4, .fn 41 [])], [(0, .map ((seenK l i).map key2) ((seenK l i).map fun _ => .bool true))], 1⟩) (fun i => i ≤ l.length ∧ mixEs (seenK l i) (l.drop i) = mixEs [] l) (fun i => l.length - i) 0 ?_ ⟨Nat.zero_le _, rfl⟩ fun i hi => ?_
  · refine Ent.auto0 rfl ?_ ?_ <;> simp only [go_sem, reduceCtorEq, reduceIte, Nat.reduceEqDiff, Nat.reduceLT, Nat.reduceLeDiff, Int.natCast_succ, seenK, List.take_zero, mxs]
  by_cases hlt : i < l.length
  · have he := mx_elem l hlt
    have hs := seenK_succ l hlt
    have hd := mixEs_drop l hlt (seenK l i)
    generalize l.getD i Mx.zero = m at *
    have k1 := part_ok m.f
    have k2 := part_ok m.t
    have kk : KeyT Tryd.prog 79 (.agg [.str m.f, .str m.t]) := key2T m.key
    have ks := key2Ts (seenK l i)
    have hE : mixE (seenK l i) m = if partOk m.f = false ∨ partOk m.t = false ∨ m.f = m.t then 2 else if m.c < 0 ∨ 100 < m.c then 3 else if m.key ∈ seenK l i then 6 else 0 := rfl
    have e3 : getB ((seenK l i).map key2) ((seenK l i).map fun _ => .bool true) (.agg [.str m.f, .str m.t]) = decide (m.key ∈ seenK l i) := (getB_set eqKey2 (seenK l i) m.key).trans (by congr)
    have e4 : updKs ((seenK l i).map key2) (.agg [.str m.f, .str m.t]) = _ := updKs_set eqKey2 (seenK l i) m.key
    have e5 : updVs ((seenK l i).map key2) ((seenK l i).map fun _ => .bool true) (.agg [.str m.f, .str m.t]) (.bool true) = _ := updVs_set eqKey2 (seenK l i) m.key
    generalize partOk m.f = p at *
    generalize partOk m.t = q at *
    (repeat' first | (with_reducible refine Asm.intro fun _ => ?_) | ((with_reducible refine Chk.intro ?_ ?_); (· first | omega | (with_reducible refine Chk.intro ?_ ?_ <;> omega) | (simp; done) | (simp; omega))) | (with_reducible refine AnyI.i64 fun _ _ => ?_) | ((with_reducible refine LetW.i64 ?_ ?_ ?_); (· omega); (· omega)) | ((with_reducible refine Ite.decide (fun _ => ?_) (fun _ => ?_)) <;> first | (exfalso; omega) | skip) | (with_reducible refine Ite.bool (fun _ => ?_) (fun _ => ?_)) | (with_reducible refine And.intro ?_ ?_) | omega | simp (maxSteps := 1000000) only [go_sem, reduceCtorEq, Nat.reduceLT, Nat.reduceLeDiff, reduceIte, ↓reduceIte, Nat.reduceEqDiff, Nat.reduceAdd, Nat.reduceMul, Nat.reduceSub, Int.reduceLE, Int.reduceLT, Int.reduceNeg, Int.reduceToNat, elemA, he, mxs, List.length_map])
    refine VcCall.fr (FnFr.of_ok k1 rfl rfl) (by simp only [noIdR_ok, argOkL, argOk, allOk, argOkN, List.drop_zero, lk, reduceIte, reduceCtorEq, Nat.reduceEqDiff, Option.some.injEq, Item.row.injEq, Item.box.injEq, AV.ro.injEq, exists_eq_left, exists_and_left, exists_eq_left', exists_eq_right, and_assoc, and_true, true_and, List.cons.injEq, exists_eq', exists_eq]) 0 rfl (by simp [rowsB]) ?_
    cases p with
    | false =>
      (repeat' first | (with_reducible refine Asm.intro fun _ => ?_) | ((with_reducible refine Chk.intro ?_ ?_); (· first | omega | (with_reducible refine Chk.intro ?_ ?_ <;> omega) | (simp; done) | (simp; omega))) | (with_reducible refine AnyI.i64 fun _ _ => ?_) | ((with_reducible refine LetW.i64 ?_ ?_ ?_); (· omega); (· omega)) | ((with_reducible refine Ite.decide (fun _ => ?_) (fun _ => ?_)) <;> first | (exfalso; omega) | skip) | (with_reducible refine Ite.bool (fun _ => ?_) (fun _ => ?_)) | (with_reducible refine And.intro ?_ ?_) | omega | simp (maxSteps := 1000000) only [go_sem, reduceCtorEq, Nat.reduceLT, Nat.reduceLeDiff, reduceIte, ↓reduceIte, Nat.reduceEqDiff, Nat.reduceAdd, Nat.reduceMul, Nat.reduceSub, Int.reduceLE, Int.reduceLT, Int.reduceNeg, Int.reduceToNat])
      refine Ret.auto 0 ?_ rfl ?_ <;> simp only [go_sem, reduceCtorEq, reduceIte, Nat.reduceEqDiff, Nat.reduceLT, Nat.reduceLeDiff, Int.natCast_succ, Post]
      rw [← hi.2, hd, hE]; simp
    | true =>
      (repeat' first | (with_reducible refine Asm.intro fun _ => ?_) | ((with_reducible refine Chk.intro ?_ ?_); (· first | omega | (with_reducible refine Chk.intro ?_ ?_ <;> omega) | (simp; done) | (simp; omega))) | (with_reducible refine AnyI.i64 fun _ _ => ?_) | ((with_reducible refine LetW.i64 ?_ ?_ ?_); (· omega); (· omega)) | ((with_reducible refine Ite.decide (fun _ => ?_) (fun _ => ?_)) <;> first | (exfalso; omega) | skip) | (with_reducible refine Ite.bool (fun _ => ?_) (fun _ => ?_)) | (with_reducible refine And.intro ?_ ?_) | omega | simp (maxSteps := 1000000) only [go_sem, reduceCtorEq, Nat.reduceLT, Nat.reduceLeDiff, reduceIte, ↓reduceIte, Nat.reduceEqDiff, Nat.reduceAdd, Nat.reduceMul, Nat.reduceSub, Int.reduceLE, Int.reduceLT, Int.reduceNeg, Int.reduceToNat])
      refine VcCall.fr (FnFr.of_ok k2 rfl rfl) (by simp only [noIdR_ok, argOkL, argOk, allOk, argOkN, List.drop_zero, lk, reduceIte, reduceCtorEq, Nat.reduceEqDiff, Option.some.injEq, Item.row.injEq, Item.box.injEq, AV.ro.injEq, exists_eq_left, exists_and_left, exists_eq_left', exists_eq_right, and_assoc, and_true, true_and, List.cons.injEq, exists_eq', exists_eq]) 0 rfl (by simp [rowsB]) ?_
      cases q with
      | false =>
        (repeat' first | (with_reducible refine Asm.intro fun _ => ?_) | ((with_reducible refine Chk.intro ?_ ?_); (· first | omega | (with_reducible refine Chk.intro ?_ ?_ <;> omega) | (simp; done) | (simp; omega))) | (with_reducible refine AnyI.i64 fun _ _ => ?_) | ((with_reducible refine LetW.i64 ?_ ?_ ?_); (· omega); (· omega)) | ((with_reducible refine Ite.decide (fun _ => ?_) (fun _ => ?_)) <;> first | (exfalso; omega) | skip) | (with_reducible refine Ite.bool (fun _ => ?_) (fun _ => ?_)) | (with_reducible refine And.intro ?_ ?_) | omega | simp (maxSteps := 1000000) only [go_sem, reduceCtorEq, Nat.reduceLT, Nat.reduceLeDiff, reduceIte, ↓reduceIte, Nat.reduceEqDiff, Nat.reduceAdd, Nat.reduceMul, Nat.reduceSub, Int.reduceLE, Int.reduceLT, Int.reduceNeg, Int.reduceToNat])
        refine Ret.auto 0 ?_ rfl ?_ <;> simp only [go_sem, reduceCtorEq, reduceIte, Nat.reduceEqDiff, Nat.reduceLT, Nat.reduceLeDiff, Int.natCast_succ, Post]
        rw [← hi.2, hd, hE]; simp
      | true =>
        (repeat' first | (with_reducible refine Asm.intro fun _ => ?_) | ((with_reducible refine Chk.intro ?_ ?_); (· first | omega | (with_reducible refine Chk.intro ?_ ?_ <;> omega) | (simp; done) | (simp; omega))) | (with_reducible refine AnyI.i64 fun _ _ => ?_) | ((with_reducible refine LetW.i64 ?_ ?_ ?_); (· omega); (· omega)) | ((with_reducible refine Ite.decide (fun _ => ?_) (fun _ => ?_)) <;> first | (exfalso; omega) | skip) | (with_reducible refine Ite.bool (fun _ => ?_) (fun _ => ?_)) | (with_reducible refine And.intro ?_ ?_) | omega | simp (maxSteps := 1000000) only [go_sem, reduceCtorEq, Nat.reduceLT, Nat.reduceLeDiff, reduceIte, ↓reduceIte, Nat.reduceEqDiff, Nat.reduceAdd, Nat.reduceMul, Nat.reduceSub, Int.reduceLE, Int.reduceLT, Int.reduceNeg, Int.reduceToNat, e3, e4, e5, all_isB, eq_true kk, eq_true ks, eq_true keyed2])
        · rename_i h1
          refine Ret.auto 0 ?_ rfl ?_ <;> simp only [go_sem, reduceCtorEq, reduceIte, Nat.reduceEqDiff, Nat.reduceLT, Nat.reduceLeDiff, Int.natCast_succ, Post]
          rw [← hi.2, hd, hE]; simp [h1]
        · rename_i h1 _ h2
          refine Ret.auto 0 ?_ rfl ?_ <;> simp only [go_sem, reduceCtorEq, reduceIte, Nat.reduceEqDiff, Nat.reduceLT, Nat.reduceLeDiff, Int.natCast_succ, Post]
          rw [← hi.2, hd, hE]; simp [h1, h2]
        · rename_i h1 _ h2 h3
          refine Ret.auto 0 ?_ rfl ?_ <;> simp only [go_sem, reduceCtorEq, reduceIte, Nat.reduceEqDiff, Nat.reduceLT, Nat.reduceLeDiff, Int.natCast_succ, Post]
          rw [← hi.2, hd, hE]; simp [h1, h2, h3]
        · rename_i h1 _ h2 h3
          have h0 : mixE (seenK l i) m = 0 := by rw [hE]; simp [h1, h2, h3]
          rw [if_pos h0, hi.2] at hd
          refine ⟨i + 1, Ent.auto0 rfl ?_ ?_, ⟨by omega, by rw [hs]; exact hd.symm⟩, by omega⟩ <;> simp only [go_sem, reduceCtorEq, reduceIte, Nat.reduceEqDiff, Nat.reduceLT, Nat.reduceLeDiff, Int.natCast_succ, hs, insE_new h3, mxs]
  · have e : i = l.length := by omega
    have h0 := hi.2
    rw [e, List.drop_length] at h0
    (repeat' first | (with_reducible refine Asm.intro fun _ => ?_) | ((with_reducible refine Chk.intro ?_ ?_); (· first | omega | (with_reducible refine Chk.intro ?_ ?_ <;> omega) | (simp; done) | (simp; omega))) | (with_reducible refine AnyI.i64 fun _ _ => ?_) | ((with_reducible refine LetW.i64 ?_ ?_ ?_); (· omega); (· omega)) | ((with_reducible refine Ite.decide (fun _ => ?_) (fun _ => ?_)) <;> first | (exfalso; omega) | skip) | (with_reducible refine Ite.bool (fun _ => ?_) (fun _ => ?_)) | (with_reducible refine And.intro ?_ ?_) | omega | simp (maxSteps := 1000000) only [go_sem, reduceCtorEq, Nat.reduceLT, Nat.reduceLeDiff, reduceIte, ↓reduceIte, Nat.reduceEqDiff, Nat.reduceAdd, Nat.reduceMul, Nat.reduceSub, Int.reduceLE, Int.reduceLT, Int.reduceNeg, Int.reduceToNat, mxs, List.length_map])
    refine Ret.auto 0 ?_ rfl ?_ <;> simp only [go_sem, reduceCtorEq, reduceIte, Nat.reduceEqDiff, Nat.reduceLT, Nat.reduceLeDiff, Int.natCast_succ, Post]
    rw [← h0]; rfl
end Go.Fv.W

namespace Go.Fv.W
open Go Go.Proofs
set_option linter.unusedSimpArgs false
set_option linter.unusedVariables false
set_option linter.unnecessarySimpa false
set_option maxRecDepth 8000

theorem take_prefix (s p : List UInt8) : decide ((p.length : Int) ≤ (s.length : Int) ∧ s.take p.length = p) = p.isPrefixOf s := by
  rw [Bool.eq_iff_iff, decide_eq_true_eq, List.isPrefixOf_iff_prefix]
  constructor
  · rintro ⟨_, h⟩; exact List.prefix_iff_eq_take.2 h.symm
  · intro h; exact ⟨by have := h.length_le; omega, (List.prefix_iff_eq_take.1 h).symm⟩
theorem hasPrefix0_ok (s p : List UInt8) : FnOk Tryd.prog 83 [.str s, .str p] (.bool (p.isPrefixOf s)) [] := by
  rw [← take_prefix]
  refine FnOk.of_vc Tryd.func83 rfl (by decide) (by simp [Tryd.f83]) [.tmp 4] rfl fun w0 T0 _ => ?_
  simp only [Tryd.f83, argEnv]
  (repeat' first | (with_reducible refine Asm.intro fun _ => ?_) | ((with_reducible refine Chk.intro ?_ ?_); (· first | omega | (with_reducible refine Chk.intro ?_ ?_ <;> omega) | (simp; done) | (simp; omega))) | (with_reducible refine AnyI.i64 fun _ _ => ?_) | ((with_reducible refine LetW.i64 ?_ ?_ ?_); (· omega); (· omega)) | ((with_reducible refine Ite.decide (fun _ => ?_) (fun _ => ?_)) <;> first | (exfalso; omega) | skip) | (with_reducible refine Ite.bool (fun _ => ?_) (fun _ => ?_)) | (with_reducible refine And.intro ?_ ?_) | omega | simp (maxSteps := 1000000) only [go_sem, reduceCtorEq, Nat.reduceLT, Nat.reduceLeDiff, reduceIte, ↓reduceIte, Nat.reduceEqDiff, Nat.reduceAdd, Nat.reduceMul, Nat.reduceSub, Int.reduceLE, Int.reduceLT, Int.reduceNeg, Int.reduceToNat, Nat.sub_zero, List.drop_zero, Int.toNat_natCast, Int.toNat_zero])
  refine Ret.auto 0 ?_ rfl ?_ <;> simp only [go_sem, reduceCtorEq, reduceIte, Nat.reduceEqDiff, Nat.reduceLT, Nat.reduceLeDiff, Int.natCast_succ, Post]
theorem hasPrefix_ok (s p : List UInt8) : FnOk Tryd.prog 55 [.str s, .str p] (.bool (p.isPrefixOf s)) [] := by
  have k := hasPrefix0_ok s p
  refine FnOk.of_vc Tryd.func55 rfl (by decide) (by simp [Tryd.f55]) [.tmp 4] rfl fun w0 T0 _ => ?_
  simp only [Tryd.f55, argEnv]
  (repeat' first | (with_reducible refine Asm.intro fun _ => ?_) | ((with_reducible refine Chk.intro ?_ ?_); (· first | omega | (with_reducible refine Chk.intro ?_ ?_ <;> omega) | (simp; done) | (simp; omega))) | (with_reducible refine AnyI.i64 fun _ _ => ?_) | ((with_reducible refine LetW.i64 ?_ ?_ ?_); (· omega); (· omega)) | ((with_reducible refine Ite.decide (fun _ => ?_) (fun _ => ?_)) <;> first | (exfalso; omega) | skip) | (with_reducible refine Ite.bool (fun _ => ?_) (fun _ => ?_)) | (with_reducible refine And.intro ?_ ?_) | omega | simp (maxSteps := 1000000) only [go_sem, reduceCtorEq, Nat.reduceLT, Nat.reduceLeDiff, reduceIte, ↓reduceIte, Nat.reduceEqDiff, Nat.reduceAdd, Nat.reduceMul, Nat.reduceSub, Int.reduceLE, Int.reduceLT, Int.reduceNeg, Int.reduceToNat])
  refine VcCall.fr (FnFr.of_ok k rfl rfl) (by simp only [noIdR_ok, argOkL, argOk, allOk, argOkN, List.drop_zero, lk, reduceIte, reduceCtorEq, Nat.reduceEqDiff, Option.some.injEq, Item.row.injEq, Item.box.injEq, AV.ro.injEq, exists_eq_left, exists_and_left, exists_eq_left', exists_eq_right, and_assoc, and_true, true_and, List.cons.injEq, exists_eq', exists_eq]) 0 rfl (by simp [rowsB]) ?_
  (repeat' first | (with_reducible refine Asm.intro fun _ => ?_) | ((with_reducible refine Chk.intro ?_ ?_); (· first | omega | (with_reducible refine Chk.intro ?_ ?_ <;> omega) | (simp; done) | (simp; omega))) | (with_reducible refine AnyI.i64 fun _ _ => ?_) | ((with_reducible refine LetW.i64 ?_ ?_ ?_); (· omega); (· omega)) | ((with_reducible refine Ite.decide (fun _ => ?_) (fun _ => ?_)) <;> first | (exfalso; omega) | skip) | (with_reducible refine Ite.bool (fun _ => ?_) (fun _ => ?_)) | (with_reducible refine And.intro ?_ ?_) | omega | simp (maxSteps := 1000000) only [go_sem, reduceCtorEq, Nat.reduceLT, Nat.reduceLeDiff, reduceIte, ↓reduceIte, Nat.reduceEqDiff, Nat.reduceAdd, Nat.reduceMul, Nat.reduceSub, Int.reduceLE, Int.reduceLT, Int.reduceNeg, Int.reduceToNat])
  refine Ret.auto 0 ?_ rfl ?_ <;> simp only [go_sem, reduceCtorEq, reduceIte, Nat.reduceEqDiff, Nat.reduceLT, Nat.reduceLeDiff, Int.natCast_succ, Post]
theorem sw_elem (l : List Sw) {i : Nat} (h : i < l.length) : (l.map Sw.av).getD i [] = [.str (l.getD i Sw.zero).o, .str (l.getD i Sw.zero).n, .int .i64 (l.getD i Sw.zero).c] := by
  rw [getD_lt (by simpa using h), getD_lt h, List.getElem_map]; rfl
theorem minF_step (f : Sw → Bool) (g : Sw → Int) (l : List Sw) {i : Nat} (h : i < l.length) (b : Int) : minF f g b (l.drop i) = minF f g (if f (l.getD i Sw.zero) then min b (g (l.getD i Sw.zero)) else b) (l.drop (i + 1)) := by
  rw [List.drop_eq_getElem_cons h, getD_lt h]; rfl

set_option maxHeartbeats 16000000 in
theorem table_ok (sw : List Sw) (hg : GoodSw sw) (hswl : sw.length ≤ 4000) (a b : List UInt8) (ha : a.length ≤ 2000) (hb : b.length ≤ 2000) :
    FnOk Tryd.prog 43 [.str a, .str b, .mp (kgKs (grp [] sw)) (kgVs (grp [] sw))] (.own 0) [(0, .row 3 (.ints .i64 (tab sw a b 0)))] := by
  refine FnOk.of_vc Tryd.func43 rfl (by decide) (by simp [Tryd.f43]) [.tmp 6] rfl fun w0 T0 _ => ?_
  simp only [Tryd.f43, argEnv]
  have hnn : (a.length + 1) * (b.length + 1) ≤ 2001 * 2001 := Nat.mul_le_mul (by omega) (by omega)
  have up1 : ((a.length : Int) + 1) * ((b.length : Int) + 1) = (((a.length + 1) * (b.length + 1) : Nat) : Int) := by simp
  have hall := tab_all sw a b
  generalize hN : (a.length + 1) * (b.length + 1) = N at *
  (repeat' first | (with_reducible refine Asm.intro fun _ => ?_) | ((with_reducible refine Chk.intro ?_ ?_); (· first | omega | (with_reducible refine Chk.intro ?_ ?_ <;> omega) | (simp; done) | (simp; omega))) | (with_reducible refine AnyI.i64 fun _ _ => ?_) | ((with_reducible refine LetW.i64 ?_ ?_ ?_); (· omega); (· omega)) | ((with_reducible refine Ite.decide (fun _ => ?_) (fun _ => ?_)) <;> first | (exfalso; omega) | skip) | (with_reducible refine Ite.bool (fun _ => ?_) (fun _ => ?_)) | (with_reducible refine And.intro ?_ ?_) | omega | simp (maxSteps := 1000000) only [go_sem, reduceCtorEq, Nat.reduceLT, Nat.reduceLeDiff, reduceIte, ↓reduceIte, Nat.reduceEqDiff, Nat.reduceAdd, Nat.reduceMul, Nat.reduceSub, Int.reduceLE, Int.reduceLT, Int.reduceNeg, Int.reduceToNat, up1, Int.toNat_natCast])
  refine VcLoop.intro (fun r : Nat => ⟨173, [(9, .int .i64 ((r : Int) - 1)), (8, .own 0), (7, .int .i64 ((b.length : Int) + 1)), (0, .str a), (1, .str b), (2, .mp (kgKs (grp [] sw)) (kgVs (grp [] sw)))], [(0, .row 3 (.ints .i64 (tab sw a b (r * (b.length + 1)))))], 1⟩) (fun r => r ≤ a.length + 1) (fun r => r) (a.length + 1) ?_ (Nat.le_refl _) fun r hr => ?_
  · refine Ent.auto0 rfl ?_ ?_ <;> simp only [go_sem, reduceCtorEq, reduceIte, Nat.reduceEqDiff, Nat.reduceLT, Nat.reduceLeDiff, Int.natCast_succ, hall, hN]
    omega
  cases r with
  | zero =>
    (repeat' first | (with_reducible refine Asm.intro fun _ => ?_) | ((with_reducible refine Chk.intro ?_ ?_); (· first | omega | (with_reducible refine Chk.intro ?_ ?_ <;> omega) | (simp; done) | (simp; omega))) | (with_reducible refine AnyI.i64 fun _ _ => ?_) | ((with_reducible refine LetW.i64 ?_ ?_ ?_); (· omega); (· omega)) | ((with_reducible refine Ite.decide (fun _ => ?_) (fun _ => ?_)) <;> first | (exfalso; omega) | skip) | (with_reducible refine Ite.bool (fun _ => ?_) (fun _ => ?_)) | (with_reducible refine And.intro ?_ ?_) | omega | simp (maxSteps := 1000000) only [go_sem, reduceCtorEq, Nat.reduceLT, Nat.reduceLeDiff, reduceIte, ↓reduceIte, Nat.reduceEqDiff, Nat.reduceAdd, Nat.reduceMul, Nat.reduceSub, Int.reduceLE, Int.reduceLT, Int.reduceNeg, Int.reduceToNat])
    refine Ret.auto 1 ?_ rfl ?_ <;> simp only [go_sem, reduceCtorEq, reduceIte, Nat.reduceEqDiff, Nat.reduceLT, Nat.reduceLeDiff, Int.natCast_succ, Post, Nat.zero_mul]
  | succ i =>
    have er : (((i + 1 : Nat) : Int)) - 1 = (i : Int) := by omega
    (repeat' first | (with_reducible refine Asm.intro fun _ => ?_) | ((with_reducible refine Chk.intro ?_ ?_); (· first | omega | (with_reducible refine Chk.intro ?_ ?_ <;> omega) | (simp; done) | (simp; omega))) | (with_reducible refine AnyI.i64 fun _ _ => ?_) | ((with_reducible refine LetW.i64 ?_ ?_ ?_); (· omega); (· omega)) | ((with_reducible refine Ite.decide (fun _ => ?_) (fun _ => ?_)) <;> first | (exfalso; omega) | skip) | (with_reducible refine Ite.bool (fun _ => ?_) (fun _ => ?_)) | (with_reducible refine And.intro ?_ ?_) | omega | simp (maxSteps := 1000000) only [go_sem, reduceCtorEq, Nat.reduceLT, Nat.reduceLeDiff, reduceIte, ↓reduceIte, Nat.reduceEqDiff, Nat.reduceAdd, Nat.reduceMul, Nat.reduceSub, Int.reduceLE, Int.reduceLT, Int.reduceNeg, Int.reduceToNat, er])
    have hPw : (i + 1) * (b.length + 1) = i * (b.length + 1) + (b.length + 1) := by rw [Nat.succ_mul]
    have hPN : i * (b.length + 1) + (b.length + 1) ≤ N := by rw [← hPw, ← hN]; exact Nat.mul_le_mul_right _ hr
    have hPn : i < a.length → i * (b.length + 1) + (b.length + 1) + (b.length + 1) ≤ N := fun h => by
      have : (i + 2) * (b.length + 1) ≤ N := by rw [← hN]; exact Nat.mul_le_mul_right _ (by omega)
      have e : (i + 2) * (b.length + 1) = i * (b.length + 1) + (b.length + 1) + (b.length + 1) := by rw [Nat.succ_mul, Nat.succ_mul]
      omega
    have mul1 : (i : Int) * ((b.length : Int) + 1) = ((i * (b.length + 1) : Nat) : Int) := by simp
    have mul2 : ((i : Int) + 1) * ((b.length : Int) + 1) = ((i * (b.length + 1) + (b.length + 1) : Nat) : Int) := by rw [← hPw]; simp
    have hD0 : ∀ j, j < b.length + 1 → cellD sw a b (i * (b.length + 1) + j) = dist sw (a.drop i) (b.drop j) := fun j h => cellD_at sw a b h
    have hD1 : ∀ j, j < b.length + 1 → cellD sw a b (i * (b.length + 1) + (b.length + 1) + j) = dist sw (a.drop (i + 1)) (b.drop j) := fun j h => by rw [← hPw]; exact cellD_at sw a b h
    rw [hPw]
    refine VcLoop.intro (fun c : Nat => ⟨173, [(10, .int .i64 ((c : Int) - 1)), (9, .int .i64 i), (8, .own 0), (7, .int .i64 ((b.length : Int) + 1)), (0, .str a), (1, .str b), (2, .mp (kgKs (grp [] sw)) (kgVs (grp [] sw)))], [(0, .row 3 (.ints .i64 (tab sw a b (i * (b.length + 1) + c))))], 1⟩) (fun c => c ≤ b.length + 1) (fun c => c) (b.length + 1) ?_ (Nat.le_refl _) fun c hc => ?_
    · refine Ent.auto0 rfl ?_ ?_ <;> simp only [go_sem, reduceCtorEq, reduceIte, Nat.reduceEqDiff, Nat.reduceLT, Nat.reduceLeDiff, Int.natCast_succ, hall, hN]
      omega
    generalize hP : i * (b.length + 1) = P at *
    cases c with
    | zero =>
      (repeat' first | (with_reducible refine Asm.intro fun _ => ?_) | ((with_reducible refine Chk.intro ?_ ?_); (· first | omega | (with_reducible refine Chk.intro ?_ ?_ <;> omega) | (simp; done) | (simp; omega))) | (with_reducible refine AnyI.i64 fun _ _ => ?_) | ((with_reducible refine LetW.i64 ?_ ?_ ?_); (· omega); (· omega)) | ((with_reducible refine Ite.decide (fun _ => ?_) (fun _ => ?_)) <;> first | (exfalso; omega) | skip) | (with_reducible refine Ite.bool (fun _ => ?_) (fun _ => ?_)) | (with_reducible refine And.intro ?_ ?_) | omega | simp (maxSteps := 1000000) only [go_sem, reduceCtorEq, Nat.reduceLT, Nat.reduceLeDiff, reduceIte, ↓reduceIte, Nat.reduceEqDiff, Nat.reduceAdd, Nat.reduceMul, Nat.reduceSub, Int.reduceLE, Int.reduceLT, Int.reduceNeg, Int.reduceToNat])
      refine ⟨i, Ent.auto0 rfl ?_ ?_, by omega, by omega⟩ <;> simp only [go_sem, reduceCtorEq, reduceIte, Nat.reduceEqDiff, Nat.reduceLT, Nat.reduceLeDiff, Int.natCast_succ, hP, Nat.add_zero]
    | succ j =>
      have ej : (((j + 1 : Nat) : Int)) - 1 = (j : Int) := by omega
      have hlen := tab_len sw a b (P + (j + 1))
      rw [hN] at hlen
      have hst : ∀ v, v = dist sw (a.drop i) (b.drop j) → (tab sw a b (P + (j + 1))).set (P + j) v = tab sw a b (P + j) := fun v hv => tab_set (hv.trans (hD0 j (by omega)).symm)
      have tn0 : ((P : Int) + j).toNat = P + j := by omega
      by_cases hia : i = a.length
      · have hv : 100 * ((b.length : Int) - j) = dist sw (a.drop i) (b.drop j) := by
          rw [hia, List.drop_length, dist_left hg]; simp; omega
        have hc1 : decide ((i : Int) = (a.length : Int)) = true := by simp [hia]
        (repeat' first | (with_reducible refine Asm.intro fun _ => ?_) | ((with_reducible refine Chk.intro ?_ ?_); (· first | omega | (with_reducible refine Chk.intro ?_ ?_ <;> omega) | (simp; done) | (simp; omega))) | (with_reducible refine AnyI.i64 fun _ _ => ?_) | ((with_reducible refine LetW.i64 ?_ ?_ ?_); (· omega); (· omega)) | ((with_reducible refine Ite.decide (fun _ => ?_) (fun _ => ?_)) <;> first | (exfalso; omega) | skip) | (with_reducible refine Ite.bool (fun _ => ?_) (fun _ => ?_)) | (with_reducible refine And.intro ?_ ?_) | omega | simp (maxSteps := 1000000) only [go_sem, reduceCtorEq, Nat.reduceLT, Nat.reduceLeDiff, reduceIte, ↓reduceIte, Nat.reduceEqDiff, Nat.reduceAdd, Nat.reduceMul, Nat.reduceSub, Int.reduceLE, Int.reduceLT, Int.reduceNeg, Int.reduceToNat, ej, mul1, tn0, hlen, hst _ hv, hc1])
        refine ⟨j, Ent.auto0 rfl ?_ ?_, by omega, by omega⟩ <;> simp only [go_sem, reduceCtorEq, reduceIte, Nat.reduceEqDiff, Nat.reduceLT, Nat.reduceLeDiff, Int.natCast_succ]
      · have hc1 : decide ((i : Int) = (a.length : Int)) = false := by simp; omega
        by_cases hjb : j = b.length
        · have hv : 100 * ((a.length : Int) - i) = dist sw (a.drop i) (b.drop j) := by
            rw [hjb, List.drop_length, dist_right hg]; simp; omega
          have hc2 : decide ((j : Int) = (b.length : Int)) = true := by simp [hjb]
          (repeat' first | (with_reducible refine Asm.intro fun _ => ?_) | ((with_reducible refine Chk.intro ?_ ?_); (· first | omega | (with_reducible refine Chk.intro ?_ ?_ <;> omega) | (simp; done) | (simp; omega))) | (with_reducible refine AnyI.i64 fun _ _ => ?_) | ((with_reducible refine LetW.i64 ?_ ?_ ?_); (· omega); (· omega)) | ((with_reducible refine Ite.decide (fun _ => ?_) (fun _ => ?_)) <;> first | (exfalso; omega) | skip) | (with_reducible refine Ite.bool (fun _ => ?_) (fun _ => ?_)) | (with_reducible refine And.intro ?_ ?_) | omega | simp (maxSteps := 1000000) only [go_sem, reduceCtorEq, Nat.reduceLT, Nat.reduceLeDiff, reduceIte, ↓reduceIte, Nat.reduceEqDiff, Nat.reduceAdd, Nat.reduceMul, Nat.reduceSub, Int.reduceLE, Int.reduceLT, Int.reduceNeg, Int.reduceToNat, ej, mul1, tn0, hlen, hst _ hv, hc1, hc2])
          refine ⟨j, Ent.auto0 rfl ?_ ?_, by omega, by omega⟩ <;> simp only [go_sem, reduceCtorEq, reduceIte, Nat.reduceEqDiff, Nat.reduceLT, Nat.reduceLeDiff, Int.natCast_succ]
        · have hc2 : decide ((j : Int) = (b.length : Int)) = false := by simp; omega
          have hPn' := hPn (by omega)
          have hxn : a.drop i ≠ [] := by simp; omega
          have hyn : b.drop j ≠ [] := by simp; omega
          have hprog := dist_prog hg hxn hyn
          simp only [List.drop_drop] at hprog
          have hxg : (a.drop i).getD 0 0 = a.getD i 0 := by simp [List.getD]
          have hyg : (b.drop j).getD 0 0 = b.getD j 0 := by simp [List.getD]
          rw [hxg, hyg] at hprog
          have r11 : (tab sw a b (P + (j + 1))).getD (P + (b.length + 1) + j + 1) 0 = dist sw (a.drop (i + 1)) (b.drop (j + 1)) := by rw [tab_get (by omega) (by omega)]; exact hD1 (j + 1) (by omega)
          have r10 : (tab sw a b (P + (j + 1))).getD (P + (b.length + 1) + j) 0 = dist sw (a.drop (i + 1)) (b.drop j) := by rw [tab_get (by omega) (by omega)]; exact hD1 j (by omega)
          have r01 : (tab sw a b (P + (j + 1))).getD (P + j + 1) 0 = dist sw (a.drop i) (b.drop (j + 1)) := by rw [tab_get (by omega) (by omega)]; exact hD0 (j + 1) (by omega)
          have t11 : (((P + (b.length + 1) : Nat) : Int) + j + 1).toNat = P + (b.length + 1) + j + 1 := by omega
          have t10 : (((P + (b.length + 1) : Nat) : Int) + j).toNat = P + (b.length + 1) + j := by omega
          have t01 : ((P : Int) + j + 1).toNat = P + j + 1 := by omega
          have b11 := dist_bd hg _ (a.drop (i + 1)) (b.drop (j + 1)) (Nat.le_refl _)
          have b10 := dist_bd hg _ (a.drop (i + 1)) (b.drop j) (Nat.le_refl _)
          have b01 := dist_bd hg _ (a.drop i) (b.drop (j + 1)) (Nat.le_refl _)
          simp only [List.length_drop] at b11 b10 b01
          generalize dist sw (a.drop (i + 1)) (b.drop (j + 1)) = d11 at *
          generalize dist sw (a.drop (i + 1)) (b.drop j) = d10 at *
          generalize dist sw (a.drop i) (b.drop (j + 1)) = d01 at *
          have hmm : ∀ x y : Int, minmax false x y = min x y := fun _ _ => rfl
          (repeat' first | (with_reducible refine Asm.intro fun _ => ?_) | ((with_reducible refine Chk.intro ?_ ?_); (· first | omega | (with_reducible refine Chk.intro ?_ ?_ <;> omega) | (simp; done) | (simp; omega))) | (with_reducible refine AnyI.i64 fun _ _ => ?_) | ((with_reducible refine LetW.i64 ?_ ?_ ?_); (· omega); (· omega)) | ((with_reducible refine Ite.decide (fun _ => ?_) (fun _ => ?_)) <;> first | (exfalso; omega) | skip) | (with_reducible refine Ite.bool (fun _ => ?_) (fun _ => ?_)) | (with_reducible refine And.intro ?_ ?_) | omega | simp (maxSteps := 1000000) only [go_sem, reduceCtorEq, Nat.reduceLT, Nat.reduceLeDiff, reduceIte, ↓reduceIte, Nat.reduceEqDiff, Nat.reduceAdd, Nat.reduceMul, Nat.reduceSub, Int.reduceLE, Int.reduceLT, Int.reduceNeg, Int.reduceToNat, ej, mul1, mul2, tn0, hlen, hc1, hc2])
          refine VcDraw.lex [] [] (by kernel_rfl) (by kernel_rfl) ?_
          (repeat' first | (with_reducible refine Asm.intro fun _ => ?_) | ((with_reducible refine Chk.intro ?_ ?_); (· first | omega | (with_reducible refine Chk.intro ?_ ?_ <;> omega) | (simp; done) | (simp; omega))) | (with_reducible refine AnyI.i64 fun _ _ => ?_) | ((with_reducible refine LetW.i64 ?_ ?_ ?_); (· omega); (· omega)) | ((with_reducible refine Ite.decide (fun _ => ?_) (fun _ => ?_)) <;> first | (exfalso; omega) | skip) | (with_reducible refine Ite.bool (fun _ => ?_) (fun _ => ?_)) | (with_reducible refine And.intro ?_ ?_) | omega | simp (maxSteps := 1000000) only [go_sem, reduceCtorEq, Nat.reduceLT, Nat.reduceLeDiff, reduceIte, ↓reduceIte, Nat.reduceEqDiff, Nat.reduceAdd, Nat.reduceMul, Nat.reduceSub, Int.reduceLE, Int.reduceLT, Int.reduceNeg, Int.reduceToNat, mul1, mul2, hlen, t11, t10, t01, elemA, r11, r10, r01])
          have hil : (i : Int) < (a.length : Int) := by omega
          have hjl : (j : Int) < (b.length : Int) := by omega
          have hsa : List.take (a.length - i) (a.drop i) = a.drop i := List.take_of_length_le (by simp)
          have hsb : List.take (b.length - j) (b.drop j) = b.drop j := List.take_of_length_le (by simp)
          have hgr := grp_is sw
          have hks : KeysT Tryd.prog 5 (kgKs (grp [] sw)) := KeysT_map (fun c => .int Tryd.underlying5 _) _
          have hvO := getV_ro (grp [] sw) (a.getD i 0)
          have hUl := under_len sw (a.getD i 0)
          obtain ⟨V, hO, hV⟩ : ∃ V, getO (kgKs (grp [] sw)) (kgVs (grp [] sw)) (.int .u8 ((a.getD i 0).toNat : Int)) .nilS = V ∧ (V = .ro (sws (under sw (a.getD i 0))) ∨ (V = .nilS ∧ under sw (a.getD i 0) = [])) := by
            cases hx : ixOf (kgK (grp [] sw)) (a.getD i 0) with
            | some t =>
              rw [hx] at hvO
              obtain ⟨h1, h2⟩ := hgr.some _ _ hx
              exact ⟨_, getO_some hvO, .inl (by rw [getD_lt h1, h2])⟩
            | none =>
              rw [hx] at hvO
              exact ⟨_, getO_none hvO, .inr ⟨rfl, hgr.none _ hx⟩⟩
          refine VcDraw.lex [] [] (by kernel_rfl) (by kernel_rfl) ?_
          by_cases hce : a.getD i 0 = b.getD j 0
          case' pos =>
            have hcd : decide (((a.getD i 0).toNat : Int) = ((b.getD j 0).toNat : Int)) = true := decide_eq_true (by rw [hce])
            rw [if_pos hce] at hprog
            (repeat' first | (with_reducible refine Asm.intro fun _ => ?_) | ((with_reducible refine Chk.intro ?_ ?_); (· first | omega | (with_reducible refine Chk.intro ?_ ?_ <;> omega) | (simp; done) | (simp; omega))) | (with_reducible refine AnyI.i64 fun _ _ => ?_) | ((with_reducible refine LetW.i64 ?_ ?_ ?_); (· omega); (· omega)) | ((with_reducible refine Ite.decide (fun _ => ?_) (fun _ => ?_)) <;> first | (exfalso; omega) | skip) | (with_reducible refine Ite.bool (fun _ => ?_) (fun _ => ?_)) | (with_reducible refine And.intro ?_ ?_) | omega | simp (maxSteps := 1000000) only [go_sem, reduceCtorEq, Nat.reduceLT, Nat.reduceLeDiff, reduceIte, ↓reduceIte, Nat.reduceEqDiff, Nat.reduceAdd, Nat.reduceMul, Nat.reduceSub, Int.reduceLE, Int.reduceLT, Int.reduceNeg, Int.reduceToNat, hcd, mul2, t11, hlen, elemA, r11, hO, eq_true hks])
            have hb0 : 0 ≤ min (100 + min (min d11 d10) d01) d11 ∧ min (100 + min (min d11 d10) d01) d11 ≤ 1000000 := by omega
            generalize min (100 + min (min d11 d10) d01) d11 = b0 at *
          case' neg =>
            have hcd : decide (((a.getD i 0).toNat : Int) = ((b.getD j 0).toNat : Int)) = false := by
              refine decide_eq_false fun e => hce (UInt8.toNat_inj.1 ?_)
              omega
            rw [if_neg hce] at hprog
            (repeat' first | (with_reducible refine Asm.intro fun _ => ?_) | ((with_reducible refine Chk.intro ?_ ?_); (· first | omega | (with_reducible refine Chk.intro ?_ ?_ <;> omega) | (simp; done) | (simp; omega))) | (with_reducible refine AnyI.i64 fun _ _ => ?_) | ((with_reducible refine LetW.i64 ?_ ?_ ?_); (· omega); (· omega)) | ((with_reducible refine Ite.decide (fun _ => ?_) (fun _ => ?_)) <;> first | (exfalso; omega) | skip) | (with_reducible refine Ite.bool (fun _ => ?_) (fun _ => ?_)) | (with_reducible refine And.intro ?_ ?_) | omega | simp (maxSteps := 1000000) only [go_sem, reduceCtorEq, Nat.reduceLT, Nat.reduceLeDiff, reduceIte, ↓reduceIte, Nat.reduceEqDiff, Nat.reduceAdd, Nat.reduceMul, Nat.reduceSub, Int.reduceLE, Int.reduceLT, Int.reduceNeg, Int.reduceToNat, hcd, mul2, t11, hlen, elemA, r11, hO, eq_true hks])
            have hb0 : 0 ≤ 100 + min (min d11 d10) d01 ∧ 100 + min (min d11 d10) d01 ≤ 1000000 := by omega
            generalize 100 + min (min d11 d10) d01 = b0 at *
          all_goals
            rcases hV with rfl | ⟨rfl, hU0⟩
            all_goals
              (repeat' first | (with_reducible refine Asm.intro fun _ => ?_) | ((with_reducible refine Chk.intro ?_ ?_); (· first | omega | (with_reducible refine Chk.intro ?_ ?_ <;> omega) | (simp; done) | (simp; omega))) | (with_reducible refine AnyI.i64 fun _ _ => ?_) | ((with_reducible refine LetW.i64 ?_ ?_ ?_); (· omega); (· omega)) | ((with_reducible refine Ite.decide (fun _ => ?_) (fun _ => ?_)) <;> first | (exfalso; omega) | skip) | (with_reducible refine Ite.bool (fun _ => ?_) (fun _ => ?_)) | (with_reducible refine And.intro ?_ ?_) | omega | simp (maxSteps := 1000000) only [go_sem, reduceCtorEq, Nat.reduceLT, Nat.reduceLeDiff, reduceIte, ↓reduceIte, Nat.reduceEqDiff, Nat.reduceAdd, Nat.reduceMul, Nat.reduceSub, Int.reduceLE, Int.reduceLT, Int.reduceNeg, Int.reduceToNat, sws, List.length_map])
              refine VcLoop.intro (fun x : Nat × Int => ⟨173, [(124, .int .i64 x.1), (123, .int .i64 (under sw (a.getD i 0)).length), (122, .ro (sws (under sw (a.getD i 0)))), (11, .int .i64 x.2), (10, .int .i64 j), (9, .int .i64 i), (8, .own 0), (7, .int .i64 ((b.length : Int) + 1)), (0, .str a), (1, .str b), (2, .mp (kgKs (grp [] sw)) (kgVs (grp [] sw)))], [(0, .row 3 (.ints .i64 (tab sw a b (P + (j + 1)))))], 1⟩) (fun x => x.1 ≤ (under sw (a.getD i 0)).length ∧ 0 ≤ x.2 ∧ x.2 ≤ 1000000 ∧ minF (fits (a.drop i) (b.drop j)) (by_ sw (a.drop i) (b.drop j)) x.2 ((under sw (a.getD i 0)).drop x.1) = dist sw (a.drop i) (b.drop j)) (fun x => (under sw (a.getD i 0)).length - x.1) (0, b0) ?_ ⟨Nat.zero_le _, hb0.1, hb0.2, hprog⟩ fun x hx => ?_
              · first
                  | (refine Ent.auto0 rfl ?_ ?_ <;> simp only [go_sem, reduceCtorEq, reduceIte, Nat.reduceEqDiff, Nat.reduceLT, Nat.reduceLeDiff, Int.natCast_succ, sws]; done)
                  | (refine Ent.trans (Ent.nilRo 122 (sws (under sw (a.getD i 0))) rfl (by rw [hU0]; exact ⟨by decide, rfl⟩)) ?_
                     refine Ent.auto0 rfl ?_ ?_ <;> simp only [go_sem, reduceCtorEq, reduceIte, Nat.reduceEqDiff, Nat.reduceLT, Nat.reduceLeDiff, Int.natCast_succ, sws, hU0, List.map_nil, List.length_nil])
              obtain ⟨k, best⟩ := x
              dsimp only at hx
              by_cases hk : k < (under sw (a.getD i 0)).length
              · have hel := sw_elem (under sw (a.getD i 0)) hk
                have hstp := minF_step (fits (a.drop i) (b.drop j)) (by_ sw (a.drop i) (b.drop j)) (under sw (a.getD i 0)) hk best
                have hmem : (under sw (a.getD i 0)).getD k Sw.zero ∈ sw := by
                  rw [getD_lt hk]; exact (List.mem_filter.1 (List.getElem_mem hk)).1
                have hso := pos_of_ne (hg.o _ hmem)
                have hsc := hg.c0 _ hmem
                have hsc1 := hg.c1 _ hmem
                generalize (under sw (a.getD i 0)).getD k Sw.zero = s at *
                have hf : fits (a.drop i) (b.drop j) s = (s.o.isPrefixOf (a.drop i) && s.n.isPrefixOf (b.drop j)) := rfl
                have hby : by_ sw (a.drop i) (b.drop j) s = s.c + dist sw ((a.drop i).drop s.o.length) ((b.drop j).drop s.n.length) := rfl
                have k1 := hasPrefix_ok (a.drop i) s.o
                have k2 := hasPrefix_ok (b.drop j) s.n
                rw [hx.2.2.2] at hstp
                rw [List.drop_drop, List.drop_drop] at hby
                (repeat' first | (with_reducible refine Asm.intro fun _ => ?_) | ((with_reducible refine Chk.intro ?_ ?_); (· first | omega | (with_reducible refine Chk.intro ?_ ?_ <;> omega) | (simp; done) | (simp; omega))) | (with_reducible refine AnyI.i64 fun _ _ => ?_) | ((with_reducible refine LetW.i64 ?_ ?_ ?_); (· omega); (· omega)) | ((with_reducible refine Ite.decide (fun _ => ?_) (fun _ => ?_)) <;> first | (exfalso; omega) | skip) | (with_reducible refine Ite.bool (fun _ => ?_) (fun _ => ?_)) | (with_reducible refine And.intro ?_ ?_) | omega | simp (maxSteps := 1000000) only [go_sem, reduceCtorEq, Nat.reduceLT, Nat.reduceLeDiff, reduceIte, ↓reduceIte, Nat.reduceEqDiff, Nat.reduceAdd, Nat.reduceMul, Nat.reduceSub, Int.reduceLE, Int.reduceLT, Int.reduceNeg, Int.reduceToNat, elemA, hel, sws, List.length_map])
                refine VcDraw.lex [] [] (by kernel_rfl) (by kernel_rfl) ?_
                (repeat' first | (with_reducible refine Asm.intro fun _ => ?_) | ((with_reducible refine Chk.intro ?_ ?_); (· first | omega | (with_reducible refine Chk.intro ?_ ?_ <;> omega) | (simp; done) | (simp; omega))) | (with_reducible refine AnyI.i64 fun _ _ => ?_) | ((with_reducible refine LetW.i64 ?_ ?_ ?_); (· omega); (· omega)) | ((with_reducible refine Ite.decide (fun _ => ?_) (fun _ => ?_)) <;> first | (exfalso; omega) | skip) | (with_reducible refine Ite.bool (fun _ => ?_) (fun _ => ?_)) | (with_reducible refine And.intro ?_ ?_) | omega | simp (maxSteps := 1000000) only [go_sem, reduceCtorEq, Nat.reduceLT, Nat.reduceLeDiff, reduceIte, ↓reduceIte, Nat.reduceEqDiff, Nat.reduceAdd, Nat.reduceMul, Nat.reduceSub, Int.reduceLE, Int.reduceLT, Int.reduceNeg, Int.reduceToNat, hsa, hsb, Int.toNat_natCast])
                refine QV.intro (.bool (s.o.isPrefixOf (a.drop i))) ?_ ?_
                · (repeat' first | (with_reducible refine Asm.intro fun _ => ?_) | ((with_reducible refine Chk.intro ?_ ?_); (· first | omega | (with_reducible refine Chk.intro ?_ ?_ <;> omega) | (simp; done) | (simp; omega))) | (with_reducible refine AnyI.i64 fun _ _ => ?_) | ((with_reducible refine LetW.i64 ?_ ?_ ?_); (· omega); (· omega)) | ((with_reducible refine Ite.decide (fun _ => ?_) (fun _ => ?_)) <;> first | (exfalso; omega) | skip) | (with_reducible refine Ite.bool (fun _ => ?_) (fun _ => ?_)) | (with_reducible refine And.intro ?_ ?_) | omega | simp (maxSteps := 1000000) only [go_sem, reduceCtorEq, Nat.reduceLT, Nat.reduceLeDiff, reduceIte, ↓reduceIte, Nat.reduceEqDiff, Nat.reduceAdd, Nat.reduceMul, Nat.reduceSub, Int.reduceLE, Int.reduceLT, Int.reduceNeg, Int.reduceToNat])
                  refine VcCall.fr (FnFr.of_ok k1 rfl rfl) (by simp only [noIdR_ok, argOkL, argOk, allOk, argOkN, List.drop_zero, lk, reduceIte, reduceCtorEq, Nat.reduceEqDiff, Option.some.injEq, Item.row.injEq, Item.box.injEq, AV.ro.injEq, exists_eq_left, exists_and_left, exists_eq_left', exists_eq_right, and_assoc, and_true, true_and, List.cons.injEq, exists_eq', exists_eq]) 0 rfl (by simp [rowsB]) ?_
                  (repeat' first | (with_reducible refine Asm.intro fun _ => ?_) | ((with_reducible refine Chk.intro ?_ ?_); (· first | omega | (with_reducible refine Chk.intro ?_ ?_ <;> omega) | (simp; done) | (simp; omega))) | (with_reducible refine AnyI.i64 fun _ _ => ?_) | ((with_reducible refine LetW.i64 ?_ ?_ ?_); (· omega); (· omega)) | ((with_reducible refine Ite.decide (fun _ => ?_) (fun _ => ?_)) <;> first | (exfalso; omega) | skip) | (with_reducible refine Ite.bool (fun _ => ?_) (fun _ => ?_)) | (with_reducible refine And.intro ?_ ?_) | omega | simp (maxSteps := 1000000) only [go_sem, reduceCtorEq, Nat.reduceLT, Nat.reduceLeDiff, reduceIte, ↓reduceIte, Nat.reduceEqDiff, Nat.reduceAdd, Nat.reduceMul, Nat.reduceSub, Int.reduceLE, Int.reduceLT, Int.reduceNeg, Int.reduceToNat])
                cases hp1 : s.o.isPrefixOf (a.drop i) with
                | false =>
                  rw [hp1, Bool.false_and] at hf
                  simp only [hf, Bool.false_eq_true, if_false] at hstp
                  (repeat' first | (with_reducible refine Asm.intro fun _ => ?_) | ((with_reducible refine Chk.intro ?_ ?_); (· first | omega | (with_reducible refine Chk.intro ?_ ?_ <;> omega) | (simp; done) | (simp; omega))) | (with_reducible refine AnyI.i64 fun _ _ => ?_) | ((with_reducible refine LetW.i64 ?_ ?_ ?_); (· omega); (· omega)) | ((with_reducible refine Ite.decide (fun _ => ?_) (fun _ => ?_)) <;> first | (exfalso; omega) | skip) | (with_reducible refine Ite.bool (fun _ => ?_) (fun _ => ?_)) | (with_reducible refine And.intro ?_ ?_) | omega | simp (maxSteps := 1000000) only [go_sem, reduceCtorEq, Nat.reduceLT, Nat.reduceLeDiff, reduceIte, ↓reduceIte, Nat.reduceEqDiff, Nat.reduceAdd, Nat.reduceMul, Nat.reduceSub, Int.reduceLE, Int.reduceLT, Int.reduceNeg, Int.reduceToNat, hsa, hsb, Int.toNat_natCast])
                  refine QV.intro (.bool false) ?_ ?_
                  · (repeat' first | (with_reducible refine Asm.intro fun _ => ?_) | ((with_reducible refine Chk.intro ?_ ?_); (· first | omega | (with_reducible refine Chk.intro ?_ ?_ <;> omega) | (simp; done) | (simp; omega))) | (with_reducible refine AnyI.i64 fun _ _ => ?_) | ((with_reducible refine LetW.i64 ?_ ?_ ?_); (· omega); (· omega)) | ((with_reducible refine Ite.decide (fun _ => ?_) (fun _ => ?_)) <;> first | (exfalso; omega) | skip) | (with_reducible refine Ite.bool (fun _ => ?_) (fun _ => ?_)) | (with_reducible refine And.intro ?_ ?_) | omega | simp (maxSteps := 1000000) only [go_sem, reduceCtorEq, Nat.reduceLT, Nat.reduceLeDiff, reduceIte, ↓reduceIte, Nat.reduceEqDiff, Nat.reduceAdd, Nat.reduceMul, Nat.reduceSub, Int.reduceLE, Int.reduceLT, Int.reduceNeg, Int.reduceToNat])
                  (repeat' first | (with_reducible refine Asm.intro fun _ => ?_) | ((with_reducible refine Chk.intro ?_ ?_); (· first | omega | (with_reducible refine Chk.intro ?_ ?_ <;> omega) | (simp; done) | (simp; omega))) | (with_reducible refine AnyI.i64 fun _ _ => ?_) | ((with_reducible refine LetW.i64 ?_ ?_ ?_); (· omega); (· omega)) | ((with_reducible refine Ite.decide (fun _ => ?_) (fun _ => ?_)) <;> first | (exfalso; omega) | skip) | (with_reducible refine Ite.bool (fun _ => ?_) (fun _ => ?_)) | (with_reducible refine And.intro ?_ ?_) | omega | simp (maxSteps := 1000000) only [go_sem, reduceCtorEq, Nat.reduceLT, Nat.reduceLeDiff, reduceIte, ↓reduceIte, Nat.reduceEqDiff, Nat.reduceAdd, Nat.reduceMul, Nat.reduceSub, Int.reduceLE, Int.reduceLT, Int.reduceNeg, Int.reduceToNat])
                  refine ⟨(k + 1, best), Ent.auto0 rfl ?_ ?_, ⟨by dsimp only; omega, hx.2.1, hx.2.2.1, hstp.symm⟩, by dsimp only; omega⟩ <;> simp only [go_sem, reduceCtorEq, reduceIte, Nat.reduceEqDiff, Nat.reduceLT, Nat.reduceLeDiff, Int.natCast_succ, sws]
                | true =>
                  rw [hp1, Bool.true_and] at hf
                  have hl1 := prefix_len hp1
                  rw [List.length_drop] at hl1
                  (repeat' first | (with_reducible refine Asm.intro fun _ => ?_) | ((with_reducible refine Chk.intro ?_ ?_); (· first | omega | (with_reducible refine Chk.intro ?_ ?_ <;> omega) | (simp; done) | (simp; omega))) | (with_reducible refine AnyI.i64 fun _ _ => ?_) | ((with_reducible refine LetW.i64 ?_ ?_ ?_); (· omega); (· omega)) | ((with_reducible refine Ite.decide (fun _ => ?_) (fun _ => ?_)) <;> first | (exfalso; omega) | skip) | (with_reducible refine Ite.bool (fun _ => ?_) (fun _ => ?_)) | (with_reducible refine And.intro ?_ ?_) | omega | simp (maxSteps := 1000000) only [go_sem, reduceCtorEq, Nat.reduceLT, Nat.reduceLeDiff, reduceIte, ↓reduceIte, Nat.reduceEqDiff, Nat.reduceAdd, Nat.reduceMul, Nat.reduceSub, Int.reduceLE, Int.reduceLT, Int.reduceNeg, Int.reduceToNat, hsa, hsb, Int.toNat_natCast])
                  refine QV.intro (.bool (s.n.isPrefixOf (b.drop j))) ?_ ?_
                  · (repeat' first | (with_reducible refine Asm.intro fun _ => ?_) | ((with_reducible refine Chk.intro ?_ ?_); (· first | omega | (with_reducible refine Chk.intro ?_ ?_ <;> omega) | (simp; done) | (simp; omega))) | (with_reducible refine AnyI.i64 fun _ _ => ?_) | ((with_reducible refine LetW.i64 ?_ ?_ ?_); (· omega); (· omega)) | ((with_reducible refine Ite.decide (fun _ => ?_) (fun _ => ?_)) <;> first | (exfalso; omega) | skip) | (with_reducible refine Ite.bool (fun _ => ?_) (fun _ => ?_)) | (with_reducible refine And.intro ?_ ?_) | omega | simp (maxSteps := 1000000) only [go_sem, reduceCtorEq, Nat.reduceLT, Nat.reduceLeDiff, reduceIte, ↓reduceIte, Nat.reduceEqDiff, Nat.reduceAdd, Nat.reduceMul, Nat.reduceSub, Int.reduceLE, Int.reduceLT, Int.reduceNeg, Int.reduceToNat, hsa, hsb, Int.toNat_natCast])
                    refine VcCall.fr (FnFr.of_ok k2 rfl rfl) (by simp only [noIdR_ok, argOkL, argOk, allOk, argOkN, List.drop_zero, lk, reduceIte, reduceCtorEq, Nat.reduceEqDiff, Option.some.injEq, Item.row.injEq, Item.box.injEq, AV.ro.injEq, exists_eq_left, exists_and_left, exists_eq_left', exists_eq_right, and_assoc, and_true, true_and, List.cons.injEq, exists_eq', exists_eq]) 0 rfl (by simp [rowsB]) ?_
                    (repeat' first | (with_reducible refine Asm.intro fun _ => ?_) | ((with_reducible refine Chk.intro ?_ ?_); (· first | omega | (with_reducible refine Chk.intro ?_ ?_ <;> omega) | (simp; done) | (simp; omega))) | (with_reducible refine AnyI.i64 fun _ _ => ?_) | ((with_reducible refine LetW.i64 ?_ ?_ ?_); (· omega); (· omega)) | ((with_reducible refine Ite.decide (fun _ => ?_) (fun _ => ?_)) <;> first | (exfalso; omega) | skip) | (with_reducible refine Ite.bool (fun _ => ?_) (fun _ => ?_)) | (with_reducible refine And.intro ?_ ?_) | omega | simp (maxSteps := 1000000) only [go_sem, reduceCtorEq, Nat.reduceLT, Nat.reduceLeDiff, reduceIte, ↓reduceIte, Nat.reduceEqDiff, Nat.reduceAdd, Nat.reduceMul, Nat.reduceSub, Int.reduceLE, Int.reduceLT, Int.reduceNeg, Int.reduceToNat])
                  cases hp2 : s.n.isPrefixOf (b.drop j) with
                  | false =>
                    rw [hp2] at hf
                    simp only [hf, Bool.false_eq_true, if_false] at hstp
                    (repeat' first | (with_reducible refine Asm.intro fun _ => ?_) | ((with_reducible refine Chk.intro ?_ ?_); (· first | omega | (with_reducible refine Chk.intro ?_ ?_ <;> omega) | (simp; done) | (simp; omega))) | (with_reducible refine AnyI.i64 fun _ _ => ?_) | ((with_reducible refine LetW.i64 ?_ ?_ ?_); (· omega); (· omega)) | ((with_reducible refine Ite.decide (fun _ => ?_) (fun _ => ?_)) <;> first | (exfalso; omega) | skip) | (with_reducible refine Ite.bool (fun _ => ?_) (fun _ => ?_)) | (with_reducible refine And.intro ?_ ?_) | omega | simp (maxSteps := 1000000) only [go_sem, reduceCtorEq, Nat.reduceLT, Nat.reduceLeDiff, reduceIte, ↓reduceIte, Nat.reduceEqDiff, Nat.reduceAdd, Nat.reduceMul, Nat.reduceSub, Int.reduceLE, Int.reduceLT, Int.reduceNeg, Int.reduceToNat])
                    refine ⟨(k + 1, best), Ent.auto0 rfl ?_ ?_, ⟨by dsimp only; omega, hx.2.1, hx.2.2.1, hstp.symm⟩, by dsimp only; omega⟩ <;> simp only [go_sem, reduceCtorEq, reduceIte, Nat.reduceEqDiff, Nat.reduceLT, Nat.reduceLeDiff, Int.natCast_succ, sws]
                  | true =>
                    have hl2 := prefix_len hp2
                    rw [List.length_drop] at hl2
                    rw [hp2] at hf
                    simp only [hf, if_true] at hstp
                    have hQ1 : (i + s.o.length) * (b.length + 1) + (b.length + 1) ≤ N := by
                      rw [← hN, ← Nat.succ_mul]; exact Nat.mul_le_mul_right _ (by omega)
                    have hQ2 : P + (b.length + 1) ≤ (i + s.o.length) * (b.length + 1) := by
                      rw [← hPw]; exact Nat.mul_le_mul_right _ (by omega)
                    have hQ3 : ∀ q, q < b.length + 1 → cellD sw a b ((i + s.o.length) * (b.length + 1) + q) = dist sw (a.drop (i + s.o.length)) (b.drop q) := fun q h => cellD_at sw a b h
                    have mul3 : ((i : Int) + (s.o.length : Int)) * ((b.length : Int) + 1) = (((i + s.o.length) * (b.length + 1) : Nat) : Int) := by simp
                    generalize (i + s.o.length) * (b.length + 1) = Q at *
                    have rs : (tab sw a b (P + (j + 1))).getD (Q + j + s.n.length) 0 = dist sw (a.drop (i + s.o.length)) (b.drop (j + s.n.length)) := by
                      rw [tab_get (by omega) (by omega), Nat.add_assoc]; exact hQ3 _ (by omega)
                    have ts : ((Q : Int) + j + (s.n.length : Int)).toNat = Q + j + s.n.length := by omega
                    have bs := dist_bd hg _ (a.drop (i + s.o.length)) (b.drop (j + s.n.length)) (Nat.le_refl _)
                    simp only [List.length_drop] at bs
                    rw [hby] at hstp
                    generalize dist sw (a.drop (i + s.o.length)) (b.drop (j + s.n.length)) = ds at *
                    (repeat' first | (with_reducible refine Asm.intro fun _ => ?_) | ((with_reducible refine Chk.intro ?_ ?_); (· first | omega | (with_reducible refine Chk.intro ?_ ?_ <;> omega) | (simp; done) | (simp; omega))) | (with_reducible refine AnyI.i64 fun _ _ => ?_) | ((with_reducible refine LetW.i64 ?_ ?_ ?_); (· omega); (· omega)) | ((with_reducible refine Ite.decide (fun _ => ?_) (fun _ => ?_)) <;> first | (exfalso; omega) | skip) | (with_reducible refine Ite.bool (fun _ => ?_) (fun _ => ?_)) | (with_reducible refine And.intro ?_ ?_) | omega | simp (maxSteps := 1000000) only [go_sem, reduceCtorEq, Nat.reduceLT, Nat.reduceLeDiff, reduceIte, ↓reduceIte, Nat.reduceEqDiff, Nat.reduceAdd, Nat.reduceMul, Nat.reduceSub, Int.reduceLE, Int.reduceLT, Int.reduceNeg, Int.reduceToNat])
                    refine VcDraw.lex [] [] (by kernel_rfl) (by kernel_rfl) ?_
                    (repeat' first | (with_reducible refine Asm.intro fun _ => ?_) | ((with_reducible refine Chk.intro ?_ ?_); (· first | omega | (with_reducible refine Chk.intro ?_ ?_ <;> omega) | (simp; done) | (simp; omega))) | (with_reducible refine AnyI.i64 fun _ _ => ?_) | ((with_reducible refine LetW.i64 ?_ ?_ ?_); (· omega); (· omega)) | ((with_reducible refine Ite.decide (fun _ => ?_) (fun _ => ?_)) <;> first | (exfalso; omega) | skip) | (with_reducible refine Ite.bool (fun _ => ?_) (fun _ => ?_)) | (with_reducible refine And.intro ?_ ?_) | omega | simp (maxSteps := 1000000) only [go_sem, reduceCtorEq, Nat.reduceLT, Nat.reduceLeDiff, reduceIte, ↓reduceIte, Nat.reduceEqDiff, Nat.reduceAdd, Nat.reduceMul, Nat.reduceSub, Int.reduceLE, Int.reduceLT, Int.reduceNeg, Int.reduceToNat, mul3, hlen, ts, rs, elemA])
                    refine ⟨(k + 1, min best (s.c + ds)), Ent.auto0 rfl ?_ ?_, ⟨by dsimp only; omega, by dsimp only; omega, by dsimp only; omega, hstp.symm⟩, by dsimp only; omega⟩ <;> simp only [go_sem, reduceCtorEq, reduceIte, Nat.reduceEqDiff, Nat.reduceLT, Nat.reduceLeDiff, Int.natCast_succ, sws]
              · have ek : k = (under sw (a.getD i 0)).length := by omega
                have hfin := hx.2.2.2
                rw [ek, List.drop_length] at hfin
                have hfin' : best = dist sw (a.drop i) (b.drop j) := hfin
                (repeat' first | (with_reducible refine Asm.intro fun _ => ?_) | ((with_reducible refine Chk.intro ?_ ?_); (· first | omega | (with_reducible refine Chk.intro ?_ ?_ <;> omega) | (simp; done) | (simp; omega))) | (with_reducible refine AnyI.i64 fun _ _ => ?_) | ((with_reducible refine LetW.i64 ?_ ?_ ?_); (· omega); (· omega)) | ((with_reducible refine Ite.decide (fun _ => ?_) (fun _ => ?_)) <;> first | (exfalso; omega) | skip) | (with_reducible refine Ite.bool (fun _ => ?_) (fun _ => ?_)) | (with_reducible refine And.intro ?_ ?_) | omega | simp (maxSteps := 1000000) only [go_sem, reduceCtorEq, Nat.reduceLT, Nat.reduceLeDiff, reduceIte, ↓reduceIte, Nat.reduceEqDiff, Nat.reduceAdd, Nat.reduceMul, Nat.reduceSub, Int.reduceLE, Int.reduceLT, Int.reduceNeg, Int.reduceToNat, sws, List.length_map, mul1, tn0, hlen, hst _ hfin'])
                refine ⟨j, Ent.auto0 rfl ?_ ?_, by omega, by omega⟩ <;> simp only [go_sem, reduceCtorEq, reduceIte, Nat.reduceEqDiff, Nat.reduceLT, Nat.reduceLeDiff, Int.natCast_succ]
end Go.Fv.W
