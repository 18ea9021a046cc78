/-
  A part of the proof of the claim: walks over the program's functions and the plain laws that these need. No condition of its own.
-/
import Derived.Test.YtmdaiceacfgkpaaGreatDoorYCorrectsCardPart1
import Derived.Test.YtmdaiceacfgkpaaGreatDoorFvPart11
import Derived.Test.YtmdaiceacfgkpaaGreatDoorFvPart5
/- Swaps by the first byte of what is old, in plain words. -/
namespace Go.Fv.Y
open Go
set_option linter.unusedSimpArgs false
set_option linter.unusedVariables false
set_option linter.unnecessarySimpa false

def Sw.zero : Sw := ⟨[], [], 0⟩
def Sw.av (s : Sw) : List AV := [.str s.o, .str s.n, .int .i64 s.c]
def sws (l : List Sw) : RowV := .objs 3 (l.map Sw.av)
instance : FNoId Sw.av := ⟨fun _ => rfl⟩
instance {l : List Sw} : RowNoId (sws l) := inferInstanceAs (RowNoId (.objs 3 (l.map Sw.av)))
abbrev KG := List (UInt8 × List Sw)
def kgK (kg : KG) : List UInt8 := kg.map (·.1)
def kgIns (kg : KG) (s : Sw) : KG := match ixOf (kgK kg) (s.o.getD 0 0) with
  | some j => kg.set j (s.o.getD 0 0, (kg.getD j (0, [])).2 ++ [s])
  | none => kg ++ [(s.o.getD 0 0, [s])]
def grp (kg : KG) : List Sw → KG
  | [] => kg
  | s :: l => grp (kgIns kg s) l
theorem grp_snoc : ∀ (l : List Sw) (kg : KG) (s : Sw), grp kg (l ++ [s]) = kgIns (grp kg l) s
  | [], kg, s => rfl
  | x :: l, kg, s => by simp only [List.cons_append, grp]; exact grp_snoc l _ s
/-- What stands under a byte. -/
def under (l : List Sw) (c : UInt8) : List Sw := l.filter fun s => decide (s.o.getD 0 0 = c)
theorem under_snoc (l : List Sw) (s : Sw) (c : UInt8) : under (l ++ [s]) c = if s.o.getD 0 0 = c then under l c ++ [s] else under l c := by
  unfold under
  rw [List.filter_append]
  split <;> simp_all
structure GrpOk (kg : KG) (l : List Sw) : Prop where
  some : ∀ c j, ixOf (kgK kg) c = some j → ∃ h : j < kg.length, kg[j].2 = under l c
  none : ∀ c, ixOf (kgK kg) c = none → under l c = []
  len : kg.length ≤ l.length
theorem kgK_len (kg : KG) : (kgK kg).length = kg.length := by simp [kgK]
theorem ixOf_lt {α : Type} [DecidableEq α] {l : List α} {x : α} {j : Nat} (h : ixOf l x = some j) : j < l.length := (List.getElem?_eq_some_iff.1 (ixOf_some h)).1
theorem ixOf_app {α : Type} [DecidableEq α] (x y : α) : ∀ l : List α, ixOf (l ++ [y]) x = match ixOf l x with | some j => some j | none => if y = x then some l.length else none
  | [] => by simp [ixOf]
  | z :: l => by
    simp only [List.cons_append, ixOf, ixOf_app x y l]
    split
    · rfl
    · cases h : ixOf l x with
      | some j => simp
      | none =>
        simp only [Option.map_none]
        split
        · simp
        · simp
theorem kgK_set (kg : KG) (j : Nat) (c : UInt8) (r : List Sw) (h : (kgK kg)[j]? = some c) : kgK (kg.set j (c, r)) = kgK kg := by
  unfold kgK at *
  rw [List.map_set]
  obtain ⟨hj, he⟩ := List.getElem?_eq_some_iff.1 h
  conv => rhs; rw [← List.set_getElem_self hj]
  rw [he]
theorem grp_ok {kg : KG} {l : List Sw} (h : GrpOk kg l) (s : Sw) : GrpOk (kgIns kg s) (l ++ [s]) := by
  unfold kgIns
  cases hx : ixOf (kgK kg) (s.o.getD 0 0) with
  | some j =>
    obtain ⟨hj, he⟩ := h.some _ _ hx
    have hk := kgK_set kg j (s.o.getD 0 0) ((kg.getD j (0, [])).2 ++ [s]) (ixOf_some hx)
    refine ⟨fun c i hi => ?_, fun c hc => ?_, by simp; have := h.len; omega⟩
    · rw [hk] at hi
      obtain ⟨h1, h2⟩ := h.some c i hi
      refine ⟨by simpa using h1, ?_⟩
      rw [under_snoc, List.getElem_set]
      by_cases e : j = i
      · subst e
        have hc : s.o.getD 0 0 = c := by
          have e1 := ixOf_some hx
          have e2 := ixOf_some hi
          rw [e1] at e2; exact Option.some.inj e2
        rw [if_pos rfl, if_pos hc, getD_lt hj, he, hc]
      · rw [if_neg e, if_neg, h2]
        intro hc
        rw [hc] at hx
        rw [hx] at hi
        exact e (Option.some.inj hi)
    · rw [hk] at hc
      rw [under_snoc, if_neg, h.none c hc]
      intro e; rw [e] at hx; rw [hx] at hc; cases hc
  | none =>
    have hk : kgK (kg ++ [(s.o.getD 0 0, [s])]) = kgK kg ++ [s.o.getD 0 0] := by simp [kgK]
    refine ⟨fun c i hi => ?_, fun c hc => ?_, by simp; exact h.len⟩
    · rw [hk, ixOf_app] at hi
      cases hq : ixOf (kgK kg) c with
      | some j =>
        rw [hq] at hi; cases hi
        obtain ⟨h1, h2⟩ := h.some c _ hq
        refine ⟨by simp; omega, ?_⟩
        rw [under_snoc, if_neg, List.getElem_append_left h1, h2]
        intro e; rw [e, hq] at hx; cases hx
      | none =>
        rw [hq] at hi
        dsimp only at hi
        split at hi
        · rename_i e
          cases hi
          refine ⟨by simp [kgK_len], ?_⟩
          rw [under_snoc, if_pos e, h.none c hq]
          simp [kgK_len]
        · cases hi
    · rw [hk, ixOf_app] at hc
      cases hq : ixOf (kgK kg) c with
      | some j => rw [hq] at hc; cases hc
      | none =>
        rw [hq] at hc
        dsimp only at hc
        split at hc
        · cases hc
        · rename_i e; rw [under_snoc, if_neg e, h.none c hq]
theorem grp_nil : GrpOk [] [] := ⟨fun c j h => by simp [kgK, ixOf] at h, fun c _ => rfl, Nat.le_refl _⟩
theorem grp_all : ∀ (l : List Sw) (kg : KG) (l0 : List Sw), GrpOk kg l0 → GrpOk (grp kg l) (l0 ++ l)
  | [], kg, l0, h => by simpa [grp] using h
  | s :: l, kg, l0, h => by
    have := grp_all l _ _ (grp_ok h s)
    simpa [grp] using this
theorem grp_is (l : List Sw) : GrpOk (grp [] l) l := by simpa using grp_all l [] [] grp_nil
theorem under_len (l : List Sw) (c : UInt8) : (under l c).length ≤ l.length := List.length_filter_le _ _
theorem swL_len (l : List Mx) : (swL l).length = 2 * l.length := by
  induction l with
  | nil => rfl
  | cons m l ih => simp [swL] at ih ⊢; omega
theorem swL_take (l : List Mx) {i : Nat} (h : i < l.length) (z : Mx) : swL (l.take (i + 1)) = swL (l.take i) ++ [⟨(l.getD i z).f, (l.getD i z).t, (l.getD i z).c⟩, ⟨(l.getD i z).t, (l.getD i z).f, (l.getD i z).c⟩] := by
  unfold swL
  rw [List.take_succ_eq_append_getElem h, getD_lt h, List.flatMap_append]
  simp only [List.flatMap_cons, List.flatMap_nil, List.append_nil]
/-- The map, where its rows are owned, and where they are lent. -/
def kB (c : UInt8) : AV := .int .u8 c.toNat
theorem eqKeyB (a b : UInt8) : eqKey (kB a) (kB b) = decide (a = b) := by
  simp only [kB, eqKey, true_and]
  congr 1
  apply propext
  constructor
  · intro h; apply UInt8.toNat_inj.1; omega
  · rintro rfl; rfl
def kgKs (kg : KG) : List AV := (kgK kg).map kB
def kgVs (kg : KG) : List AV := kg.map fun p => .ro (sws p.2)
theorem getV_own (kg : KG) (b : Nat) (c : UInt8) : getV (kgKs kg) (famN b kg.length) (kB c) = match ixOf (kgK kg) c with | some j => some (.own (j + b)) | none => none := by
  unfold getV kgKs
  rw [keyIdx_map eqKeyB]
  cases h : ixOf (kgK kg) c with
  | none => rfl
  | some j =>
    have := ixOf_lt h
    rw [kgK_len] at this
    simp [famN_get this]
theorem getV_ro (kg : KG) (c : UInt8) : getV (kgKs kg) (kgVs kg) (kB c) = match ixOf (kgK kg) c with | some j => some (.ro (sws (kg.getD j (0, [])).2)) | none => none := by
  unfold getV kgKs kgVs
  rw [keyIdx_map eqKeyB]
  cases h : ixOf (kgK kg) c with
  | none => rfl
  | some j =>
    have := ixOf_lt h
    rw [kgK_len] at this
    simp [getD_lt this, this]
end Go.Fv.Y

/- The table of distances, in plain words. -/
namespace Go.Fv.Y
open Go
set_option linter.unusedSimpArgs false
set_option linter.unusedVariables false
set_option linter.unnecessarySimpa false

def cellD (sw : List Sw) (a b : List UInt8) (k : Nat) : Int := dist sw (a.drop (k / (b.length + 1))) (b.drop (k % (b.length + 1)))
def tab (sw : List Sw) (a b : List UInt8) (p : Nat) : List Int := (List.range ((a.length + 1) * (b.length + 1))).map fun k => if p ≤ k then cellD sw a b k else 0
theorem tab_len (sw : List Sw) (a b : List UInt8) (p : Nat) : (tab sw a b p).length = (a.length + 1) * (b.length + 1) := by simp [tab]
theorem tab_get {sw : List Sw} {a b : List UInt8} {p k : Nat} (h : k < (a.length + 1) * (b.length + 1)) (hp : p ≤ k) : (tab sw a b p).getD k 0 = cellD sw a b k := by
  rw [getD_lt (by rw [tab_len]; exact h)]
  simp [tab, hp]
theorem tab_all (sw : List Sw) (a b : List UInt8) : tab sw a b ((a.length + 1) * (b.length + 1)) = List.replicate ((a.length + 1) * (b.length + 1)) 0 := by
  refine List.ext_getElem (by simp [tab]) fun i h1 h2 => ?_
  simp only [tab, List.length_map, List.length_range] at h1
  simp [tab]; omega
theorem tab_set {sw : List Sw} {a b : List UInt8} {p : Nat} {v : Int} (hv : v = cellD sw a b p) : (tab sw a b (p + 1)).set p v = tab sw a b p := by
  refine List.ext_getElem (by simp [tab]) fun i h1 h2 => ?_
  rw [List.getElem_set]
  split
  · rename_i e; subst e; simp [tab, hv]
  · rename_i e
    simp only [tab, List.getElem_map, List.getElem_range]
    by_cases h : p ≤ i
    · rw [if_pos (by omega), if_pos h]
    · rw [if_neg (by omega), if_neg h]
theorem cellD_at (sw : List Sw) (a b : List UInt8) {i j : Nat} (h : j < b.length + 1) : cellD sw a b (i * (b.length + 1) + j) = dist sw (a.drop i) (b.drop j) := by
  unfold cellD
  have h1 : (i * (b.length + 1) + j) / (b.length + 1) = i := by
    rw [Nat.mul_comm, Nat.mul_add_div (by omega), Nat.div_eq_of_lt h, Nat.add_zero]
  have h2 : (i * (b.length + 1) + j) % (b.length + 1) = j := by
    rw [Nat.mul_comm, Nat.mul_add_mod, Nat.mod_eq_of_lt h]
  rw [h1, h2]

/-- The least of some values, those that fit. -/
def minF (f : Sw → Bool) (g : Sw → Int) : Int → List Sw → Int
  | b, [] => b
  | b, s :: l => minF f g (if f s then min b (g s) else b) l
theorem minF_le (f : Sw → Bool) (g : Sw → Int) : ∀ (l : List Sw) (b : Int), minF f g b l ≤ b ∧ ∀ s, s ∈ l → f s = true → minF f g b l ≤ g s
  | [], b => ⟨Int.le_refl _, fun s h => by cases h⟩
  | x :: l, b => by
    obtain ⟨h1, h2⟩ := minF_le f g l (if f x then min b (g x) else b)
    simp only [minF]
    refine ⟨?_, fun s hs hf => ?_⟩
    · by_cases hf : f x = true
      · rw [if_pos hf] at *; omega
      · rw [if_neg hf] at *; omega
    · cases List.mem_cons.1 hs with
      | inl e => subst e; rw [if_pos hf] at *; omega
      | inr e => exact h2 s e hf
theorem minF_mem (f : Sw → Bool) (g : Sw → Int) : ∀ (l : List Sw) (b : Int), minF f g b l = b ∨ ∃ s, s ∈ l ∧ f s = true ∧ minF f g b l = g s
  | [], b => .inl rfl
  | x :: l, b => by
    simp only [minF]
    rcases minF_mem f g l (if f x then min b (g x) else b) with h | ⟨s, h1, h2, h3⟩
    · split at h
      · rename_i hf
        rcases Int.le_total b (g x) with hle | hle
        · rw [Int.min_eq_left hle] at h; left; rw [if_pos hf, Int.min_eq_left hle]; exact h
        · rw [Int.min_eq_right hle] at h; right; exact ⟨x, .head _, hf, by rw [if_pos hf, Int.min_eq_right hle]; exact h⟩
      · rename_i hf; left; rw [if_neg hf]; exact h
    · exact .inr ⟨s, .tail _ h1, h2, h3⟩
def fits (x y : List UInt8) (s : Sw) : Bool := s.o.isPrefixOf x && s.n.isPrefixOf y
def by_ (sw : List Sw) (x y : List UInt8) (s : Sw) : Int := s.c + dist sw (x.drop s.o.length) (y.drop s.n.length)
theorem pre_head {o x : List UInt8} (ho : o ≠ []) (h : o.isPrefixOf x = true) : o.getD 0 0 = x.getD 0 0 := by
  obtain ⟨z, rfl⟩ := List.isPrefixOf_iff_prefix.1 h
  cases o with
  | nil => exact absurd rfl ho
  | cons c o => rfl
theorem dist_prog {sw : List Sw} (hg : GoodSw sw) {x y : List UInt8} (hx : x ≠ []) (hy : y ≠ []) :
    minF (fits x y) (by_ sw x y) (if x.getD 0 0 = y.getD 0 0 then min (100 + min (min (dist sw (x.drop 1) (y.drop 1)) (dist sw (x.drop 1) y)) (dist sw x (y.drop 1))) (dist sw (x.drop 1) (y.drop 1)) else 100 + min (min (dist sw (x.drop 1) (y.drop 1)) (dist sw (x.drop 1) y)) (dist sw x (y.drop 1))) (under sw (x.getD 0 0)) = dist sw x y := by
  have hd : ∀ l : List UInt8, l.headD 0 = l.getD 0 0 := fun l => by cases l <;> rfl
  have h11 := dist_le hg (x := x) (y := y) (s := ⟨1, 1, 100⟩) (by simp [steps, hx, hy])
  have h10 := dist_le hg (x := x) (y := y) (s := ⟨1, 0, 100⟩) (by simp [steps, hx])
  have h01 := dist_le hg (x := x) (y := y) (s := ⟨0, 1, 100⟩) (by simp [steps, hy])
  simp only [List.drop_zero] at h10 h01 h11
  have hsw : ∀ s, s ∈ sw → fits x y s = true → (⟨s.o.length, s.n.length, s.c⟩ : St) ∈ steps sw x y := by
    intro s hs hf
    simp only [fits] at hf
    have : (⟨s.o.length, s.n.length, s.c⟩ : St) ∈ swSteps sw x y := List.mem_map.2 ⟨s, List.mem_filter.2 ⟨hs, hf⟩, rfl⟩
    simp [steps, this]
  generalize hb0 : (if x.getD 0 0 = y.getD 0 0 then min (100 + min (min (dist sw (x.drop 1) (y.drop 1)) (dist sw (x.drop 1) y)) (dist sw x (y.drop 1))) (dist sw (x.drop 1) (y.drop 1)) else 100 + min (min (dist sw (x.drop 1) (y.drop 1)) (dist sw (x.drop 1) y)) (dist sw x (y.drop 1))) = b0
  obtain ⟨m1, m2⟩ := minF_le (fits x y) (by_ sw x y) (under sw (x.getD 0 0)) b0
  have hge : dist sw x y ≤ b0 := by
    rw [← hb0]
    split
    · rename_i e
      have := dist_le hg (steps_eq (sw := sw) hx hy (by rw [hd, hd]; exact e))
      simp only at this
      omega
    · omega
  have hle : minF (fits x y) (by_ sw x y) b0 (under sw (x.getD 0 0)) ≤ dist sw x y := by
    obtain ⟨s, hs, he⟩ := dist_step hg (x := x) (y := y) (fun e => hx e.1)
    rcases step_cases hs with ⟨h1, h2, h3, rfl⟩ | ⟨q, h1, h2, h3, rfl⟩ | ⟨h1, h2, rfl⟩ | ⟨h1, rfl⟩ | ⟨h1, rfl⟩
    · rw [hd, hd] at h3
      rw [if_pos h3] at hb0
      simp only at he
      omega
    · have hq : q ∈ under sw (x.getD 0 0) := List.mem_filter.2 ⟨h1, by simpa using pre_head (hg.o q h1) h2⟩
      have := m2 q hq (by simp [fits, h2, h3])
      simp only [by_] at this
      simp only at he
      omega
    · simp only at he
      have : b0 ≤ 100 + dist sw (x.drop 1) (y.drop 1) := by rw [← hb0]; split <;> omega
      omega
    · simp only [List.drop_zero] at he
      have : b0 ≤ 100 + dist sw (x.drop 1) y := by rw [← hb0]; split <;> omega
      omega
    · simp only [List.drop_zero] at he
      have : b0 ≤ 100 + dist sw x (y.drop 1) := by rw [← hb0]; split <;> omega
      omega
  rcases minF_mem (fits x y) (by_ sw x y) (under sw (x.getD 0 0)) b0 with h | ⟨s, h1, h2, h3⟩
  · omega
  · have := dist_le hg (hsw s (List.mem_filter.1 h1).1 h2)
    simp only [by_] at h3
    simp only at this
    omega
end Go.Fv.Y

/- The first step of a script, in plain words. -/
namespace Go.Fv.Y
open Go
set_option linter.unusedSimpArgs false
set_option linter.unusedVariables false
set_option linter.unnecessarySimpa false

end Go.Fv.Y

/- Near and Best: what they compute. -/
namespace Go.Fv.Y
open Go
set_option linter.unusedSimpArgs false
set_option linter.unusedVariables false
set_option linter.unnecessarySimpa false

/-- The guess that a word makes, if it is near. -/
def gsOf (D : List Wd) (sw : List Sw) (w : Bytes) (most : Int) (x : Bytes) : List Gs := if dist sw w x ≤ most then [⟨x, dist sw w x, cntD D x⟩] else []
def gsAll (D : List Wd) (sw : List Sw) (w : Bytes) (most : Int) (ws : List Bytes) : List Gs := ws.flatMap (gsOf D sw w most)
/-- What near gives. -/
def nearL (D : List Wd) (sw : List Sw) (w : Bytes) (most : Int) : List Gs := sortG (gsAll D sw w most (wsD D))
theorem gsAll_take (D : List Wd) (sw : List Sw) (w : Bytes) (most : Int) {ws : List Bytes} {i : Nat} (h : i < ws.length) : gsAll D sw w most (ws.take (i + 1)) = gsAll D sw w most (ws.take i) ++ gsOf D sw w most (ws.getD i []) := by
  unfold gsAll
  rw [List.take_succ_eq_append_getElem h, List.flatMap_append, getD_lt h]
  simp
theorem gsOf_len (D : List Wd) (sw : List Sw) (w : Bytes) (most : Int) (x : Bytes) : (gsOf D sw w most x).length ≤ 1 := by
  unfold gsOf; split <;> simp
theorem gsAll_len (D : List Wd) (sw : List Sw) (w : Bytes) (most : Int) : ∀ ws : List Bytes, (gsAll D sw w most ws).length ≤ ws.length
  | [] => Nat.le_refl _
  | x :: ws => by
    have h1 := gsAll_len D sw w most ws
    have h2 := gsOf_len D sw w most x
    unfold gsAll at *
    rw [List.flatMap_cons, List.length_append, List.length_cons]; omega
theorem mem_gsAll {D : List Wd} {sw : List Sw} {w : Bytes} {most : Int} {ws : List Bytes} {g : Gs} (h : g ∈ gsAll D sw w most ws) : g.t ∈ ws ∧ g.d = dist sw w g.t ∧ g.c = cntD D g.t ∧ g.d ≤ most := by
  unfold gsAll at h
  obtain ⟨x, hx, hg⟩ := List.mem_flatMap.1 h
  unfold gsOf at hg
  split at hg
  · rename_i hd
    rw [List.mem_singleton] at hg
    subst hg
    exact ⟨hx, rfl, rfl, hd⟩
  · cases hg
theorem gsAll_stab (D : List Wd) (sw : List Sw) (w : Bytes) (most : Int) : ∀ {ws : List Bytes}, (ws.Pairwise fun a b => a < b) → Stab (gsAll D sw w most ws)
  | [], _ => List.Pairwise.nil
  | x :: ws, h => by
    obtain ⟨h1, h2⟩ := List.pairwise_cons.1 h
    have ih := gsAll_stab D sw w most h2
    show Stab (gsOf D sw w most x ++ gsAll D sw w most ws)
    refine List.pairwise_append.2 ⟨?_, ih, fun a ha b hb _ => ?_⟩
    · unfold gsOf; split
      · exact List.pairwise_singleton _ _
      · exact List.Pairwise.nil
    · have hb' := (mem_gsAll hb).1
      have ha' : a.t = x := by
        unfold gsOf at ha
        split at ha
        · rw [List.mem_singleton] at ha; rw [ha]
        · cases ha
      rw [ha']; exact h1 _ hb'
theorem ws_lt {D : List Wd} (hg : GoodD D) : (wsD D).Pairwise fun a b => a < b := by
  have h1 : (wsD D).Pairwise fun a b => a ≤ b := sortS_le _
  have hp : (wsD D).Perm (D.map Wd.t) := List.mergeSort_perm _ _
  have h2 : (wsD D).Pairwise fun a b => a ≠ b := List.nodup_iff_pairwise_ne.1 (hp.nodup_iff.2 hg.nd)
  refine (h1.and h2).imp fun {a b} hh => ?_
  obtain ⟨h3, h4⟩ := hh
  rcases Std.Trichotomous.rel_or_eq_or_rel_swap (r := fun a b : List UInt8 => a < b) (a := a) (b := b) with h5 | h5 | h5
  · exact h5
  · exact absurd h5 h4
  · exact absurd (List.le_antisymm h3 (List.le_of_lt h5)) h4
theorem ws_mem {D : List Wd} {x : Bytes} : x ∈ wsD D ↔ x ∈ D.map Wd.t := (List.mergeSort_perm _ _ : (wsD D).Perm (D.map Wd.t)).mem_iff
theorem ws_isWd {D : List Wd} (hg : GoodD D) {x : Bytes} (h : x ∈ wsD D) : isWd x = true := by
  obtain ⟨w, hw, rfl⟩ := List.mem_map.1 (ws_mem.1 h)
  exact (hg.wd w hw).1
theorem ws_len (D : List Wd) : (wsD D).length = D.length := by
  have h : (wsD D).Perm (D.map Wd.t) := List.mergeSort_perm _ _
  rw [h.length_eq, List.length_map]
/-- What stands out. -/
def bestG : List Gs → Option Gs
  | [] => none
  | [x] => some x
  | x :: y :: _ => if x.d < y.d ∨ 2 * y.c ≤ x.c then some x else none
/-- The errors of Near. -/
def nearErr (l : List Mx) (w : Bytes) (most : Int) : Int := if most < 0 ∨ 10000 < most then 3 else if 200 < w.length then 4 else mixErr l
end Go.Fv.Y

/- A text is one word just where its tokens are that word alone; small letters. -/
namespace Go.Fv.Y
open Go
set_option linter.unusedSimpArgs false
set_option linter.unusedVariables false
set_option linter.unnecessarySimpa false

/-- Each word among the tokens is a word. -/
def WordsOk (l : List Tok) : Prop := ∀ t, t ∈ l → t.2 = true → isWd t.1 = true
theorem WordsOk.flush {l : List Tok} (h : WordsOk l) (b : Bytes) : WordsOk (flush l b) := by
  unfold Go.Fv.Y.flush
  split
  · exact h
  · intro t ht hw
    rcases List.mem_append.1 ht with h1 | h1
    · exact h t h1 hw
    · simp at h1; subst h1; cases hw
/-- A to Z made small. -/
def smallB (c : UInt8) : UInt8 := if 65 ≤ c.toNat ∧ c.toNat ≤ 90 then c + 32 else c
def smallL (s : Bytes) : Bytes := s.map smallB
end Go.Fv.Y

/- Small letters: the bytes on the way. -/
namespace Go.Fv.Y
open Go Go.Proofs
set_option linter.unusedSimpArgs false
set_option linter.unusedVariables false
set_option linter.unnecessarySimpa false
set_option maxRecDepth 8000

theorem byteInts_len (l : List UInt8) : (byteInts l).length = l.length := by simp [byteInts]
theorem bytesOf_byteInts (l : List UInt8) : bytesOf (byteInts l) = l := by
  unfold bytesOf byteInts
  rw [List.map_map]
  conv => rhs; rw [← List.map_id l]
  refine List.map_congr_left fun b _ => ?_
  simp
def smallAt (s : List UInt8) (i : Nat) : List Int := byteInts ((s.take i).map smallB ++ s.drop i)
theorem smallAt_zero (s : List UInt8) : smallAt s 0 = byteInts s := by simp [smallAt]
theorem smallAt_end (s : List UInt8) : bytesOf (smallAt s s.length) = smallL s := by
  unfold smallAt
  rw [bytesOf_byteInts]; simp [smallL]
theorem smallAt_len (s : List UInt8) (i : Nat) : (smallAt s i).length = s.length := by
  simp [smallAt, byteInts]; omega
theorem smallAt_get {s : List UInt8} {i : Nat} (h : i < s.length) : (smallAt s i).getD i 0 = ((s.getD i 0).toNat : Int) := by
  unfold smallAt byteInts
  simp only [List.getD_eq_getElem?_getD, List.getElem?_map]
  rw [List.getElem?_append_right (by simp; omega)]
  have e : i - ((s.take i).map smallB).length = 0 := by simp; omega
  rw [e, List.getElem?_drop]
  simp [h]
theorem smallB_int (c : UInt8) : ((smallB c).toNat : Int) = if 65 ≤ c.toNat ∧ c.toNat ≤ 90 then (c.toNat : Int) + 32 else c.toNat := by
  unfold smallB
  split
  · rw [UInt8.toNat_add]
    have : (32 : UInt8).toNat = 32 := rfl
    rw [this]; omega
  · rfl
theorem smallAt_step {s : List UInt8} {i : Nat} (h : i < s.length) : smallAt s (i + 1) = if 65 ≤ (s.getD i 0).toNat ∧ (s.getD i 0).toNat ≤ 90 then (smallAt s i).set i (((s.getD i 0).toNat : Int) + 32) else smallAt s i := by
  have hb := smallB_int (s.getD i 0)
  have e1 : smallAt s (i + 1) = (smallAt s i).set i ((smallB (s.getD i 0)).toNat : Int) := by
    unfold smallAt byteInts
    rw [List.take_succ_eq_append_getElem h, getD_lt h]
    have hd : s.drop i = s[i] :: s.drop (i + 1) := List.drop_eq_getElem_cons h
    rw [hd]
    simp only [List.map_append, List.map_cons, List.map_nil]
    have hl : (((s.take i).map smallB).map fun b => (b.toNat : Int)).length = i := by simp; omega
    rw [List.set_append_right (h := by omega), hl, Nat.sub_self, List.set_cons_zero]
    simp
  rw [e1, hb]
  split
  · rfl
  · have hg := smallAt_get h
    rw [← hg]
    apply List.ext_getElem?
    intro j
    rw [List.getElem?_set]
    split
    · rename_i e; subst e
      have hl := smallAt_len s i
      simp [List.getD_eq_getElem?_getD, hl, h]
    · rfl
end Go.Fv.Y

/- words.mapped and small letters. -/
namespace Go.Fv.Y
open Go Go.Proofs
set_option linter.unusedSimpArgs false
set_option linter.unusedVariables false
set_option linter.unnecessarySimpa false
set_option maxRecDepth 8000

def mapAt (f : UInt8 → UInt8) (s : List UInt8) (i : Nat) : List Int := byteInts ((s.take i).map f ++ s.drop i)
theorem mapAt_zero (f : UInt8 → UInt8) (s : List UInt8) : mapAt f s 0 = byteInts s := by simp [mapAt]
theorem mapAt_end (f : UInt8 → UInt8) (s : List UInt8) : bytesOf (mapAt f s s.length) = s.map f := by
  unfold mapAt
  rw [bytesOf_byteInts]; simp
theorem mapAt_len (f : UInt8 → UInt8) (s : List UInt8) (i : Nat) : (mapAt f s i).length = s.length := by
  simp [mapAt, byteInts]; omega
theorem mapAt_get (f : UInt8 → UInt8) {s : List UInt8} {i : Nat} (h : i < s.length) : (mapAt f s i).getD i 0 = ((s.getD i 0).toNat : Int) := by
  unfold mapAt byteInts
  simp only [List.getD_eq_getElem?_getD, List.getElem?_map]
  rw [List.getElem?_append_right (by simp; omega)]
  have e : i - ((s.take i).map f).length = 0 := by simp; omega
  rw [e, List.getElem?_drop]
  simp [h]
theorem mapAt_step (f : UInt8 → UInt8) {s : List UInt8} {i : Nat} (h : i < s.length) : mapAt f s (i + 1) = (mapAt f s i).set i ((f (s.getD i 0)).toNat : Int) := by
  unfold mapAt
  have e1 : s.drop i = s.getD i 0 :: s.drop (i + 1) := by rw [List.drop_eq_getElem_cons h, getD_lt h]
  have e2 : s.take (i + 1) = s.take i ++ [s.getD i 0] := by rw [List.take_succ_eq_append_getElem h, getD_lt h]
  have hl : (byteInts ((s.take i).map f)).length = i := by simp [byteInts]; omega
  rw [e1, e2]
  unfold byteInts at *
  rw [List.map_append, List.map_append, List.map_append, List.map_append, List.set_append_right _ _ (by omega), hl, Nat.sub_self]
  simp
set_option maxHeartbeats 1000000 in
theorem mapped_ok (s : List UInt8) (F : Nat) (f : UInt8 → UInt8) (hf : ∀ c : UInt8, FnFr Tryz.prog F [.int .u8 c.toNat] (.int .u8 (f c).toNat) []) : FnOk Tryz.prog 97 [.str s, .fn F []] (.str (s.map f)) [] := by
  have h0 := mapAt_zero f s
  have hz := mapAt_end f s
  refine FnOk.of_vc Tryz.func97 rfl (by decide) (by simp [Tryz.f97]) [.tmp 4] rfl fun w0 T0 _ => ?_
  simp only [Tryz.f97, argEnv]
  (repeat' first | with_reducible (first | intro _ | refine rc ?_ | refine rl ?_ | refine rh ?_ | refine rt ?_ | refine rf ?_ | refine rs ?_ | refine And.intro ?_ ?_) | omega | simp (maxSteps := 1000000) only [go_sem, simprocAttr, ↓reduceIte, byteInts_len])
  refine VcLoop.intro (fun i : Nat => ⟨26, [(12, .int .i64 i), (11, .int .i64 s.length), (10, .own 0), (5, .own 0), (1, .fn F [])], [(0, .row 5 (.ints .u8 (mapAt f s i)))], 1⟩) (fun i => i ≤ s.length) (fun i => s.length - i) 0 ?_ (Nat.zero_le _) fun i hi => ?_
  · refine Ent.auto0 rfl ?_ ?_ <;> simp only [go_sem, reduceCtorEq, reduceIte, Nat.reduceEqDiff, Nat.reduceLT, Nat.reduceLeDiff, Int.natCast_succ, h0]
  by_cases hlt : i < s.length
  · have hg := mapAt_get f hlt
    have hst := mapAt_step f hlt
    have hl := mapAt_len f s i
    have hc2 := (s.getD i 0).toNat_lt
    have kf := hf (s.getD i 0)
    have hd2 := (f (s.getD i 0)).toNat_lt
    generalize f (s.getD i 0) = d at *
    generalize s.getD i 0 = c at *
    (repeat' first | with_reducible (first | intro _ | refine rc ?_ | refine rl ?_ | refine rh ?_ | refine rt ?_ | refine rf ?_ | refine rs ?_ | refine And.intro ?_ ?_) | omega | simp (maxSteps := 1000000) only [go_sem, simprocAttr, ↓reduceIte, Int.toNat_natCast, hg, hl])
    refine VcCall.fr kf (by simp only [noIdR_ok, argOkL, argOk, allOk, argOkN, List.drop_zero, lk, reduceIte, reduceCtorEq, Nat.reduceEqDiff, Option.some.injEq, Item.row.injEq, Item.box.injEq, AV.ro.injEq, exists_eq_left, exists_and_left, exists_eq_left', exists_eq_right, and_assoc, and_true, true_and, List.cons.injEq, exists_eq', exists_eq]) 0 rfl (by simp [rowsB]) ?_
    (repeat' first | with_reducible (first | intro _ | refine rc ?_ | refine rl ?_ | refine rh ?_ | refine rt ?_ | refine rf ?_ | refine rs ?_ | refine And.intro ?_ ?_) | omega | simp (maxSteps := 1000000) only [go_sem, simprocAttr, ↓reduceIte, Int.toNat_natCast, hg, hl])
    refine ⟨i + 1, Ent.auto0 rfl ?_ ?_, by omega, by omega⟩ <;> simp only [go_sem, reduceCtorEq, reduceIte, Nat.reduceEqDiff, Nat.reduceLT, Nat.reduceLeDiff, Int.natCast_succ, hst]
  · have e : i = s.length := by omega
    subst e
    (repeat' first | with_reducible (first | intro _ | refine rc ?_ | refine rl ?_ | refine rh ?_ | refine rt ?_ | refine rf ?_ | refine rs ?_ | refine And.intro ?_ ?_) | omega | simp (maxSteps := 1000000) only [go_sem, simprocAttr, ↓reduceIte, hz])
    refine Ret.auto 0 ?_ rfl ?_ <;> simp only [go_sem, reduceCtorEq, reduceIte, Nat.reduceEqDiff, Nat.reduceLT, Nat.reduceLeDiff, Int.natCast_succ, Post]
    all_goals exact hz
theorem small1W_ok (c : UInt8) : FnOk Tryz.prog 98 [.int .u8 c.toNat] (.int .u8 (smallB c).toNat) [] := by
  have h := smallB_int c
  have hc2 := c.toNat_lt
  refine FnOk.of_vc Tryz.func98 rfl (by decide) (by simp [Tryz.f98]) [.tmp 2] rfl fun w0 T0 _ => ?_
  simp only [Tryz.f98, argEnv]
  by_cases hc : 65 ≤ c.toNat ∧ c.toNat ≤ 90
  · rw [if_pos hc] at h
    (repeat' first | with_reducible (first | intro _ | refine rc ?_ | refine rl ?_ | refine rh ?_ | refine rt ?_ | refine rf ?_ | refine rs ?_ | refine And.intro ?_ ?_) | omega | simp (maxSteps := 1000000) only [go_sem, simprocAttr, ↓reduceIte])
    refine Ret.auto 0 ?_ rfl ?_ <;> simp only [go_sem, reduceCtorEq, reduceIte, Nat.reduceEqDiff, Nat.reduceLT, Nat.reduceLeDiff, Int.natCast_succ, Post, h]
  · rw [if_neg hc] at h
    (repeat' first | with_reducible (first | intro _ | refine rc ?_ | refine rl ?_ | refine rh ?_ | refine rt ?_ | refine rf ?_ | refine rs ?_ | refine And.intro ?_ ?_) | omega | simp (maxSteps := 1000000) only [go_sem, simprocAttr, ↓reduceIte])
    refine Ret.auto 0 ?_ rfl ?_ <;> simp only [go_sem, reduceCtorEq, reduceIte, Nat.reduceEqDiff, Nat.reduceLT, Nat.reduceLeDiff, Int.natCast_succ, Post, h]
theorem smallW_ok (s : List UInt8) : FnOk Tryz.prog 61 [.str s] (.str (smallL s)) [] := by
  have k := mapped_ok s 98 smallB fun c => FnFr.of_ok (small1W_ok c) rfl rfl
  rw [show s.map smallB = smallL s from rfl] at k
  refine FnOk.of_vc Tryz.func61 rfl (by decide) (by simp [Tryz.f61]) [.tmp 2] rfl fun w0 T0 _ => ?_
  simp only [Tryz.f61, argEnv]
  (repeat' first | with_reducible (first | intro _ | refine rc ?_ | refine rl ?_ | refine rh ?_ | refine rt ?_ | refine rf ?_ | refine rs ?_ | refine And.intro ?_ ?_) | omega | simp (maxSteps := 1000000) only [go_sem, simprocAttr, ↓reduceIte])
  refine VcCall.k (k) ?_
  (repeat' first | with_reducible (first | intro _ | refine rc ?_ | refine rl ?_ | refine rh ?_ | refine rt ?_ | refine rf ?_ | refine rs ?_ | refine And.intro ?_ ?_) | omega | simp (maxSteps := 1000000) only [go_sem, simprocAttr, ↓reduceIte])
  refine Ret.auto 0 ?_ rfl ?_ <;> simp only [go_sem, reduceCtorEq, reduceIte, Nat.reduceEqDiff, Nat.reduceLT, Nat.reduceLeDiff, Int.natCast_succ, Post]
set_option maxHeartbeats 1000000 in
set_option maxHeartbeats 1000000 in
theorem refSmall_ok (s : List UInt8) : FnOk Tryz.prog 42 [.str s] (.str (smallL s)) [] := by
  have h0 := smallAt_zero s
  have hz := smallAt_end s
  refine FnOk.of_vc Tryz.func42 rfl (by decide) (by simp [Tryz.f42]) [.tmp 2] rfl fun w0 T0 _ => ?_
  simp only [Tryz.f42, argEnv]
  (repeat' first | with_reducible (first | intro _ | refine rc ?_ | refine rl ?_ | refine rh ?_ | refine rt ?_ | refine rf ?_ | refine rs ?_ | refine And.intro ?_ ?_) | omega | simp (maxSteps := 1000000) only [go_sem, simprocAttr, ↓reduceIte, byteInts_len])
  refine VcLoop.intro (fun i : Nat => ⟨29, [(10, .int .i64 i), (9, .int .i64 s.length), (8, .own 0), (3, .own 0)], [(0, .row 5 (.ints .u8 (smallAt s i)))], 1⟩) (fun i => i ≤ s.length) (fun i => s.length - i) 0 ?_ (Nat.zero_le _) fun i hi => ?_
  · refine Ent.auto0 rfl ?_ ?_ <;> simp only [go_sem, reduceCtorEq, reduceIte, Nat.reduceEqDiff, Nat.reduceLT, Nat.reduceLeDiff, Int.natCast_succ, h0]
  by_cases hlt : i < s.length
  · have hg := smallAt_get hlt
    have hst := smallAt_step hlt
    have hl := smallAt_len s i
    have hc2 := (s.getD i 0).toNat_lt
    generalize s.getD i 0 = c at *
    by_cases hc : 65 ≤ c.toNat ∧ c.toNat ≤ 90
    · rw [if_pos hc] at hst
      have e1 : (c.toNat : Int) + 97 - 65 = (c.toNat : Int) + 32 := by omega
      (repeat' first | with_reducible (first | intro _ | refine rc ?_ | refine rl ?_ | refine rh ?_ | refine rt ?_ | refine rf ?_ | refine rs ?_ | refine And.intro ?_ ?_) | omega | simp (maxSteps := 1000000) only [go_sem, simprocAttr, ↓reduceIte, Int.toNat_natCast, hg, hl, e1])
      refine ⟨i + 1, Ent.auto0 rfl ?_ ?_, by omega, by omega⟩ <;> simp only [go_sem, reduceCtorEq, reduceIte, Nat.reduceEqDiff, Nat.reduceLT, Nat.reduceLeDiff, Int.natCast_succ, hst]
    · rw [if_neg hc] at hst
      (repeat' first | with_reducible (first | intro _ | refine rc ?_ | refine rl ?_ | refine rh ?_ | refine rt ?_ | refine rf ?_ | refine rs ?_ | refine And.intro ?_ ?_) | omega | simp (maxSteps := 1000000) only [go_sem, simprocAttr, ↓reduceIte, Int.toNat_natCast, hg, hl])
      refine ⟨i + 1, Ent.auto0 rfl ?_ ?_, by omega, by omega⟩ <;> simp only [go_sem, reduceCtorEq, reduceIte, Nat.reduceEqDiff, Nat.reduceLT, Nat.reduceLeDiff, Int.natCast_succ, hst]
  · have e : i = s.length := by omega
    subst e
    (repeat' first | with_reducible (first | intro _ | refine rc ?_ | refine rl ?_ | refine rh ?_ | refine rt ?_ | refine rf ?_ | refine rs ?_ | refine And.intro ?_ ?_) | omega | simp (maxSteps := 1000000) only [go_sem, simprocAttr, ↓reduceIte, hz])
    refine Ret.auto 0 ?_ rfl ?_ <;> simp only [go_sem, reduceCtorEq, reduceIte, Nat.reduceEqDiff, Nat.reduceLT, Nat.reduceLeDiff, Int.natCast_succ, Post]
    all_goals exact hz

end Go.Fv.Y

/- Great letters, and words that are written like others. -/
namespace Go.Fv.Y
open Go Go.Proofs
set_option linter.unusedSimpArgs false
set_option linter.unusedVariables false
set_option linter.unnecessarySimpa false
set_option maxRecDepth 8000

def greatB (c : UInt8) : UInt8 := if 97 ≤ c.toNat ∧ c.toNat ≤ 122 then c - 32 else c
def greatL (s : Bytes) : Bytes := s.map greatB
theorem greatB_int (c : UInt8) : ((greatB c).toNat : Int) = if 97 ≤ c.toNat ∧ c.toNat ≤ 122 then (c.toNat : Int) - 32 else c.toNat := by
  unfold greatB
  split
  · rename_i h
    have : (c - 32).toNat = c.toNat - 32 := by
      rw [UInt8.toNat_sub_of_le]
      · rfl
      · show (32 : UInt8).toNat ≤ c.toNat
        have : (32 : UInt8).toNat = 32 := rfl
        omega
    rw [this]; omega
  · rfl
theorem great1_ok (c : UInt8) : FnOk Tryz.prog 129 [.int .u8 c.toNat] (.int .u8 (greatB c).toNat) [] := by
  have h := greatB_int c
  have hc2 := c.toNat_lt
  refine FnOk.of_vc Tryz.func129 rfl (by decide) (by simp [Tryz.f129]) [.tmp 2] rfl fun w0 T0 _ => ?_
  simp only [Tryz.f129, argEnv]
  by_cases hc : 97 ≤ c.toNat ∧ c.toNat ≤ 122
  · rw [if_pos hc] at h
    (repeat' first | with_reducible (first | intro _ | refine rc ?_ | refine rl ?_ | refine rh ?_ | refine rt ?_ | refine rf ?_ | refine rs ?_ | refine And.intro ?_ ?_) | omega | simp (maxSteps := 1000000) only [go_sem, simprocAttr, ↓reduceIte])
    refine Ret.auto 0 ?_ rfl ?_ <;> simp only [go_sem, reduceCtorEq, reduceIte, Nat.reduceEqDiff, Nat.reduceLT, Nat.reduceLeDiff, Int.natCast_succ, Post, h]
  · rw [if_neg hc] at h
    (repeat' first | with_reducible (first | intro _ | refine rc ?_ | refine rl ?_ | refine rh ?_ | refine rt ?_ | refine rf ?_ | refine rs ?_ | refine And.intro ?_ ?_) | omega | simp (maxSteps := 1000000) only [go_sem, simprocAttr, ↓reduceIte])
    refine Ret.auto 0 ?_ rfl ?_ <;> simp only [go_sem, reduceCtorEq, reduceIte, Nat.reduceEqDiff, Nat.reduceLT, Nat.reduceLeDiff, Int.natCast_succ, Post, h]
theorem great_ok (s : Bytes) : FnOk Tryz.prog 99 [.str s] (.str (greatL s)) [] := by
  have k := mapped_ok s 129 greatB fun c => FnFr.of_ok (great1_ok c) rfl rfl
  rw [show s.map greatB = greatL s from rfl] at k
  refine FnOk.of_vc Tryz.func99 rfl (by decide) (by simp [Tryz.f99]) [.tmp 2] rfl fun w0 T0 _ => ?_
  simp only [Tryz.f99, argEnv]
  (repeat' first | with_reducible (first | intro _ | refine rc ?_ | refine rl ?_ | refine rh ?_ | refine rt ?_ | refine rf ?_ | refine rs ?_ | refine And.intro ?_ ?_) | omega | simp (maxSteps := 1000000) only [go_sem, simprocAttr, ↓reduceIte])
  refine VcCall.k (k) ?_
  (repeat' first | with_reducible (first | intro _ | refine rc ?_ | refine rl ?_ | refine rh ?_ | refine rt ?_ | refine rf ?_ | refine rs ?_ | refine And.intro ?_ ?_) | omega | simp (maxSteps := 1000000) only [go_sem, simprocAttr, ↓reduceIte])
  refine Ret.auto 0 ?_ rfl ?_ <;> simp only [go_sem, reduceCtorEq, reduceIte, Nat.reduceEqDiff, Nat.reduceLT, Nat.reduceLeDiff, Int.natCast_succ, Post]
set_option maxHeartbeats 1000000 in
theorem refGreat_ok (s : Bytes) : FnOk Tryz.prog 103 [.str s] (.str (greatL s)) [] := by
  have h0 := mapAt_zero greatB s
  have hz := mapAt_end greatB s
  rw [show s.map greatB = greatL s from rfl] at hz
  refine FnOk.of_vc Tryz.func103 rfl (by decide) (by simp [Tryz.f103]) [.tmp 2] rfl fun w0 T0 _ => ?_
  simp only [Tryz.f103, argEnv]
  (repeat' first | with_reducible (first | intro _ | refine rc ?_ | refine rl ?_ | refine rh ?_ | refine rt ?_ | refine rf ?_ | refine rs ?_ | refine And.intro ?_ ?_) | omega | simp (maxSteps := 1000000) only [go_sem, simprocAttr, ↓reduceIte, byteInts_len])
  refine VcLoop.intro (fun i : Nat => ⟨29, [(10, .int .i64 i), (9, .int .i64 s.length), (8, .own 0), (3, .own 0)], [(0, .row 5 (.ints .u8 (mapAt greatB s i)))], 1⟩) (fun i => i ≤ s.length) (fun i => s.length - i) 0 ?_ (Nat.zero_le _) fun i hi => ?_
  · refine Ent.auto0 rfl ?_ ?_ <;> simp only [go_sem, reduceCtorEq, reduceIte, Nat.reduceEqDiff, Nat.reduceLT, Nat.reduceLeDiff, Int.natCast_succ, h0]
  by_cases hlt : i < s.length
  · have hg := mapAt_get greatB hlt
    have hst := mapAt_step greatB hlt
    have hl := mapAt_len greatB s i
    have hgi := greatB_int (s.getD i 0)
    have hc2 := (s.getD i 0).toNat_lt
    rw [hgi] at hst
    generalize s.getD i 0 = c at *
    by_cases hc : 97 ≤ c.toNat ∧ c.toNat ≤ 122
    · rw [if_pos hc] at hst
      (repeat' first | with_reducible (first | intro _ | refine rc ?_ | refine rl ?_ | refine rh ?_ | refine rt ?_ | refine rf ?_ | refine rs ?_ | refine And.intro ?_ ?_) | omega | simp (maxSteps := 1000000) only [go_sem, simprocAttr, ↓reduceIte, Int.toNat_natCast, hg, hl])
      refine ⟨i + 1, Ent.auto0 rfl ?_ ?_, by omega, by omega⟩ <;> simp only [go_sem, reduceCtorEq, reduceIte, Nat.reduceEqDiff, Nat.reduceLT, Nat.reduceLeDiff, Int.natCast_succ, hst]
    · rw [if_neg hc] at hst
      have hsame : (mapAt greatB s i).set i (c.toNat : Int) = mapAt greatB s i := by
        rw [← hg]
        apply List.ext_getElem (by simp)
        intro n h1 h2
        rw [List.getElem_set]
        split
        · rename_i e; subst e; rw [getD_lt h2]
        · rfl
      rw [hsame] at hst
      (repeat' first | with_reducible (first | intro _ | refine rc ?_ | refine rl ?_ | refine rh ?_ | refine rt ?_ | refine rf ?_ | refine rs ?_ | refine And.intro ?_ ?_) | omega | simp (maxSteps := 1000000) only [go_sem, simprocAttr, ↓reduceIte, Int.toNat_natCast, hg, hl])
      refine ⟨i + 1, Ent.auto0 rfl ?_ ?_, by omega, by omega⟩ <;> simp only [go_sem, reduceCtorEq, reduceIte, Nat.reduceEqDiff, Nat.reduceLT, Nat.reduceLeDiff, Int.natCast_succ, hst]
  · have e : i = s.length := by omega
    subst e
    (repeat' first | with_reducible (first | intro _ | refine rc ?_ | refine rl ?_ | refine rh ?_ | refine rt ?_ | refine rf ?_ | refine rs ?_ | refine And.intro ?_ ?_) | omega | simp (maxSteps := 1000000) only [go_sem, simprocAttr, ↓reduceIte, hz])
    refine Ret.auto 0 ?_ rfl ?_ <;> simp only [go_sem, reduceCtorEq, reduceIte, Nat.reduceEqDiff, Nat.reduceLT, Nat.reduceLeDiff, Int.natCast_succ, Post]
    all_goals exact hz
/-! ### Like another word -/
def isUp (c : UInt8) : Bool := decide (65 ≤ c.toNat ∧ c.toNat ≤ 90)
def isLow (c : UInt8) : Bool := decide (97 ≤ c.toNat ∧ c.toNat ≤ 122)
def ups (s : Bytes) : Nat := s.countP isUp
def lows (s : Bytes) : Nat := s.countP isLow
def recL (word like : Bytes) : Bytes := if 2 ≤ ups like + lows like ∧ lows like = 0 then greatL word else if isUp (like.getD 0 0) = true then greatL (word.take 1) ++ word.drop 1 else word
theorem countP_take (p : UInt8 → Bool) {s : Bytes} {i : Nat} (h : i < s.length) : (s.take (i + 1)).countP p = (s.take i).countP p + if p (s.getD i 0) = true then 1 else 0 := by
  rw [List.take_succ_eq_append_getElem h, List.countP_append, getD_lt h, List.countP_singleton]
theorem countP_le (p : UInt8 → Bool) (s : Bytes) (i : Nat) : (s.take i).countP p ≤ i := by
  have h1 := List.countP_le_length (p := p) (l := s.take i)
  rw [List.length_take] at h1; omega
theorem greatL_same (s : Bytes) : greatL s = s ↔ lows s = 0 := by
  unfold greatL lows
  induction s with
  | nil => simp
  | cons c s ih =>
    rw [List.map_cons, List.countP_cons]
    constructor
    · intro h
      obtain ⟨h1, h2⟩ := List.cons.inj h
      have := ih.1 h2
      have hc : isLow c = false := by
        unfold isLow
        apply decide_eq_false
        intro hc
        have := greatB_int c
        rw [h1, if_pos hc] at this
        omega
      rw [this, hc]; simp
    · intro h
      have hc : isLow c = false := by
        cases hc : isLow c with
        | false => rfl
        | true => rw [hc] at h; simp at h
      rw [hc] at h
      have h2 := ih.2 (by simpa using h)
      rw [h2]
      congr 1
      unfold greatB
      rw [if_neg (of_decide_eq_false hc)]
set_option maxHeartbeats 8000000 in
theorem recased_ok (word like : Bytes) (hw : 0 < word.length) (hl : 0 < like.length) (hwl : word.length ≤ 1000000) (hll : like.length ≤ 1000000) : FnOk Tryz.prog 62 [.str word, .str like] (.str (recL word like)) [] := by
  have kg := great_ok word
  have kg1 := great_ok (word.take 1)
  have gl : (greatL (word.take 1)).length ≤ 1 := by unfold greatL; simp; omega
  refine FnOk.of_vc Tryz.func62 rfl (by decide) (by simp [Tryz.f62]) [.tmp 4] rfl fun w0 T0 _ => ?_
  simp only [Tryz.f62, argEnv]
  (repeat' first | with_reducible (first | intro _ | refine rc ?_ | refine rl ?_ | refine rh ?_ | refine rt ?_ | refine rf ?_ | refine rs ?_ | refine And.intro ?_ ?_) | omega | simp (maxSteps := 1000000) only [go_sem, simprocAttr, ↓reduceIte])
  refine VcLoop.intro (fun i : Nat => ⟨64, [(11, .int .i64 i), (10, .int .i64 like.length), (0, .str word), (1, .str like), (5, .int .i64 ((like.take i).countP isUp + (like.take i).countP isLow : Nat)), (6, .int .i64 ((like.take i).countP isUp : Nat))], [], 0⟩) (fun i => i ≤ like.length) (fun i => like.length - i) 0 ?_ (Nat.zero_le _) fun i hi => ?_
  · refine Ent.auto0 rfl ?_ ?_ <;> simp only [go_sem, reduceCtorEq, reduceIte, Nat.reduceEqDiff, Nat.reduceLT, Nat.reduceLeDiff, Int.natCast_succ]
    all_goals exact ⟨rfl, rfl⟩
  have b1 := countP_le isUp like i
  have b2 := countP_le isLow like i
  by_cases hlt : i < like.length
  · have s1 := countP_take isUp hlt
    have s2 := countP_take isLow hlt
    generalize (like.take i).countP isUp = u at *
    generalize (like.take i).countP isLow = l at *
    generalize hu2 : (like.take (i + 1)).countP isUp = u2 at *
    generalize hl2 : (like.take (i + 1)).countP isLow = l2 at *
    unfold isUp at s1
    unfold isLow at s2
    generalize hcc : like.getD i 0 = c at *
    simp only [decide_eq_true_eq] at s1 s2
    by_cases h1 : 65 ≤ c.toNat ∧ c.toNat ≤ 90
    · rw [if_pos h1] at s1
      rw [if_neg (by omega)] at s2
      have n1 : ((u2 : Nat) : Int) = (u : Int) + 1 := by omega
      have n2 : ((u2 + l2 : Nat) : Int) = ((u + l : Nat) : Int) + 1 := by omega
      have i1 : (65 : Int) ≤ (c.toNat : Int) ∧ (c.toNat : Int) ≤ 90 := by omega
      (repeat' first | with_reducible (first | intro _ | refine rc ?_ | refine rl ?_ | refine rh ?_ | refine rt ?_ | refine rf ?_ | refine rs ?_ | refine And.intro ?_ ?_) | omega | simp (maxSteps := 1000000) only [go_sem, simprocAttr, ↓reduceIte, i1, hcc])
      refine ⟨i + 1, Ent.auto0 rfl ?_ ?_, by omega, by omega⟩ <;> simp only [go_sem, reduceCtorEq, reduceIte, Nat.reduceEqDiff, Nat.reduceLT, Nat.reduceLeDiff, Int.natCast_succ, hu2, hl2, n1, n2]
    · rw [if_neg h1] at s1
      have i1 : ¬ ((65 : Int) ≤ (c.toNat : Int) ∧ (c.toNat : Int) ≤ 90) := by omega
      by_cases h2 : 97 ≤ c.toNat ∧ c.toNat ≤ 122
      · rw [if_pos h2] at s2
        have n1 : u2 = u := by omega
        subst n1
        have n2 : ((u2 + l2 : Nat) : Int) = ((u2 + l : Nat) : Int) + 1 := by omega
        have i2 : (97 : Int) ≤ (c.toNat : Int) ∧ (c.toNat : Int) ≤ 122 := by omega
        (repeat' first | with_reducible (first | intro _ | refine rc ?_ | refine rl ?_ | refine rh ?_ | refine rt ?_ | refine rf ?_ | refine rs ?_ | refine And.intro ?_ ?_) | omega | simp (maxSteps := 1000000) only [go_sem, simprocAttr, ↓reduceIte, i1, i2, hcc])
        refine ⟨i + 1, Ent.auto0 rfl ?_ ?_, by omega, by omega⟩ <;> simp only [go_sem, reduceCtorEq, reduceIte, Nat.reduceEqDiff, Nat.reduceLT, Nat.reduceLeDiff, Int.natCast_succ, hu2, hl2, n2]
      · rw [if_neg h2] at s2
        have n1 : u2 = u := by omega
        have n2 : l2 = l := by omega
        subst n1 n2
        have i2 : ¬ ((97 : Int) ≤ (c.toNat : Int) ∧ (c.toNat : Int) ≤ 122) := by omega
        (repeat' first | with_reducible (first | intro _ | refine rc ?_ | refine rl ?_ | refine rh ?_ | refine rt ?_ | refine rf ?_ | refine rs ?_ | refine And.intro ?_ ?_) | omega | simp (maxSteps := 1000000) only [go_sem, simprocAttr, ↓reduceIte, i1, i2, hcc])
        refine ⟨i + 1, Ent.auto0 rfl ?_ ?_, by omega, by omega⟩ <;> simp only [go_sem, reduceCtorEq, reduceIte, Nat.reduceEqDiff, Nat.reduceLT, Nat.reduceLeDiff, Int.natCast_succ, hu2, hl2]
  · have e : i = like.length := by omega
    subst e
    rw [List.take_length] at b1 b2 ⊢
    rw [show like.countP isUp = ups like from rfl] at b1 ⊢
    rw [show like.countP isLow = lows like from rfl] at b2 ⊢
    unfold recL
    unfold isUp
    simp only [decide_eq_true_eq]
    generalize ups like = u at *
    generalize lows like = l at *
    by_cases h1 : 2 ≤ u + l ∧ l = 0
    · rw [if_pos h1]
      have i1 : (2 : Int) ≤ ((u + l : Nat) : Int) ∧ (u : Int) = ((u + l : Nat) : Int) := by omega
      (repeat' first | with_reducible (first | intro _ | refine rc ?_ | refine rl ?_ | refine rh ?_ | refine rt ?_ | refine rf ?_ | refine rs ?_ | refine And.intro ?_ ?_) | omega | simp (maxSteps := 1000000) only [go_sem, simprocAttr, ↓reduceIte, i1])
      refine VcCall.k (kg) ?_
      (repeat' first | with_reducible (first | intro _ | refine rc ?_ | refine rl ?_ | refine rh ?_ | refine rt ?_ | refine rf ?_ | refine rs ?_ | refine And.intro ?_ ?_) | omega | simp (maxSteps := 1000000) only [go_sem, simprocAttr, ↓reduceIte])
      refine Ret.auto 0 ?_ rfl ?_ <;> simp only [go_sem, reduceCtorEq, reduceIte, Nat.reduceEqDiff, Nat.reduceLT, Nat.reduceLeDiff, Int.natCast_succ, Post]
    · rw [if_neg h1]
      have i1 : ¬ ((2 : Int) ≤ ((u + l : Nat) : Int) ∧ (u : Int) = ((u + l : Nat) : Int)) := by omega
      generalize hcc : like.getD 0 0 = c at *
      by_cases h2 : 65 ≤ c.toNat ∧ c.toNat ≤ 90
      · rw [if_pos h2]
        have i2 : (65 : Int) ≤ (c.toNat : Int) ∧ (c.toNat : Int) ≤ 90 := by omega
        (repeat' first | with_reducible (first | intro _ | refine rc ?_ | refine rl ?_ | refine rh ?_ | refine rt ?_ | refine rf ?_ | refine rs ?_ | refine And.intro ?_ ?_) | omega | simp (maxSteps := 1000000) only [go_sem, simprocAttr, ↓reduceIte, i1, i2, hcc])
        refine VcDraw.lex [] [] (by kernel_rfl) (by kernel_rfl) ?_
        (repeat' first | with_reducible (first | intro _ | refine rc ?_ | refine rl ?_ | refine rh ?_ | refine rt ?_ | refine rf ?_ | refine rs ?_ | refine And.intro ?_ ?_) | omega | simp (maxSteps := 1000000) only [go_sem, simprocAttr, ↓reduceIte])
        refine QV.intro (.str (greatL (word.take 1))) ?_ ?_
        · (repeat' first | with_reducible (first | intro _ | refine rc ?_ | refine rl ?_ | refine rh ?_ | refine rt ?_ | refine rf ?_ | refine rs ?_ | refine And.intro ?_ ?_) | omega | simp (maxSteps := 1000000) only [go_sem, simprocAttr, ↓reduceIte])
          refine VcCall.k (kg1) ?_
          (repeat' first | with_reducible (first | intro _ | refine rc ?_ | refine rl ?_ | refine rh ?_ | refine rt ?_ | refine rf ?_ | refine rs ?_ | refine And.intro ?_ ?_) | omega | simp (maxSteps := 1000000) only [go_sem, simprocAttr, ↓reduceIte])
        (repeat' first | with_reducible (first | intro _ | refine rc ?_ | refine rl ?_ | refine rh ?_ | refine rt ?_ | refine rf ?_ | refine rs ?_ | refine And.intro ?_ ?_) | omega | simp (maxSteps := 1000000) only [go_sem, simprocAttr, ↓reduceIte])
        refine Ret.auto 0 ?_ rfl ?_ <;> simp only [go_sem, reduceCtorEq, reduceIte, Nat.reduceEqDiff, Nat.reduceLT, Nat.reduceLeDiff, Int.natCast_succ, Post]
        have hdt : List.take (word.length - 1) (List.drop 1 word) = List.drop 1 word := List.take_of_length_le (by rw [List.length_drop]; exact Nat.le_refl _)
        rw [hdt]
      · rw [if_neg h2]
        have i2 : ¬ ((65 : Int) ≤ (c.toNat : Int) ∧ (c.toNat : Int) ≤ 90) := by omega
        (repeat' first | with_reducible (first | intro _ | refine rc ?_ | refine rl ?_ | refine rh ?_ | refine rt ?_ | refine rf ?_ | refine rs ?_ | refine And.intro ?_ ?_) | omega | simp (maxSteps := 1000000) only [go_sem, simprocAttr, ↓reduceIte, i1, i2, hcc])
        refine Ret.auto 0 ?_ rfl ?_ <;> simp only [go_sem, reduceCtorEq, reduceIte, Nat.reduceEqDiff, Nat.reduceLT, Nat.reduceLeDiff, Int.natCast_succ, Post]
end Go.Fv.Y

/- Letters, words, and the trims at one byte. -/
namespace Go.Fv.Y
open Go Go.Proofs
set_option linter.unusedSimpArgs false
set_option linter.unusedVariables false
set_option linter.unnecessarySimpa false
set_option maxRecDepth 8000

theorem isL_eq (c : UInt8) : isL c = decide ((97 ≤ (c.toNat : Int) ∧ (c.toNat : Int) ≤ 122 ∨ 65 ≤ (c.toNat : Int) ∧ (c.toNat : Int) ≤ 90) ∨ 128 ≤ (c.toNat : Int)) := by
  rw [Bool.eq_iff_iff]; simp only [isL, Bool.or_eq_true, Bool.and_eq_true, decide_eq_true_eq]; omega
theorem u8_39 (c : UInt8) : c = 39 ↔ (c.toNat : Int) = 39 := by
  constructor
  · rintro rfl; rfl
  · intro h; exact UInt8.toNat_inj.1 (by show c.toNat = 39; omega)
theorem inW_eq (c : UInt8) : inW c = (isL c || decide ((c.toNat : Int) = 39)) := by
  simp only [inW, u8_39]
theorem letter_ok (c : UInt8) : FnOk Tryz.prog 32 [.int .u8 c.toNat] (.bool (isL c)) [] := by
  refine FnOk.of_vc Tryz.func32 rfl (by decide) (by simp [Tryz.f32]) [.tmp 2] rfl fun w0 T0 _ => ?_
  simp only [Tryz.f32, argEnv]
  (repeat' first | with_reducible (first | intro _ | refine rc ?_ | refine rl ?_ | refine rh ?_ | refine rt ?_ | refine rf ?_ | refine rs ?_ | refine And.intro ?_ ?_) | omega | simp (maxSteps := 1000000) only [go_sem, simprocAttr, ↓reduceIte])
  refine Ret.auto 0 ?_ rfl ?_ <;> simp only [go_sem, reduceCtorEq, reduceIte, Nat.reduceEqDiff, Nat.reduceLT, Nat.reduceLeDiff, Int.natCast_succ, Post, isL_eq]
theorem isLetter_ok (c : UInt8) : FnOk Tryz.prog 43 [.int .u8 c.toNat] (.bool (isL c)) [] := by
  refine FnOk.of_vc Tryz.func43 rfl (by decide) (by simp [Tryz.f43]) [.tmp 2] rfl fun w0 T0 _ => ?_
  simp only [Tryz.f43, argEnv]
  (repeat' first | with_reducible (first | intro _ | refine rc ?_ | refine rl ?_ | refine rh ?_ | refine rt ?_ | refine rf ?_ | refine rs ?_ | refine And.intro ?_ ?_) | omega | simp (maxSteps := 1000000) only [go_sem, simprocAttr, ↓reduceIte])
  refine Ret.auto 0 ?_ rfl ?_ <;> simp only [go_sem, reduceCtorEq, reduceIte, Nat.reduceEqDiff, Nat.reduceLT, Nat.reduceLeDiff, Int.natCast_succ, Post, isL_eq]
theorem inWord_ok (c : UInt8) : FnOk Tryz.prog 76 [.int .u8 c.toNat] (.bool (inW c)) [] := by
  have k := letter_ok c
  refine FnOk.of_vc Tryz.func76 rfl (by decide) (by simp [Tryz.f76]) [.tmp 2] rfl fun w0 T0 _ => ?_
  simp only [Tryz.f76, argEnv]
  (repeat' first | with_reducible (first | intro _ | refine rc ?_ | refine rl ?_ | refine rh ?_ | refine rt ?_ | refine rf ?_ | refine rs ?_ | refine And.intro ?_ ?_) | omega | simp (maxSteps := 1000000) only [go_sem, simprocAttr, ↓reduceIte])
  refine VcCall.k k ?_
  (repeat' first | with_reducible (first | intro _ | refine rc ?_ | refine rl ?_ | refine rh ?_ | refine rt ?_ | refine rf ?_ | refine rs ?_ | refine And.intro ?_ ?_) | omega | simp (maxSteps := 1000000) only [go_sem, simprocAttr, ↓reduceIte])
  refine Ret.auto 0 ?_ rfl ?_ <;> simp only [go_sem, reduceCtorEq, reduceIte, Nat.reduceEqDiff, Nat.reduceLT, Nat.reduceLeDiff, Int.natCast_succ, Post, inW_eq]
theorem isWd_nil : isWd [] = false := by simp [isWd]
theorem isWd_long {s : List UInt8} (h : 40 < (s.length : Int)) : isWd s = false := by
  have : ¬ s.length ≤ 40 := by omega
  simp [isWd, this]
theorem isWd_mid {s : List UInt8} (h0 : ¬ s = []) (h1 : ¬ 40 < (s.length : Int)) : isWd s = (isL (s.getD 0 0) && isL (s.getD (s.length - 1) 0) && s.all inW) := by
  have h : s.length ≤ 40 := by omega
  have e1 : s.headD 0 = s.getD 0 0 := by cases s <;> rfl
  have e2 : s.getLastD 0 = s.getD (s.length - 1) 0 := by
    rw [List.getLastD_eq_getLast?, List.getLast?_eq_getElem?]; simp [List.getD]
  simp only [isWd, e1, e2, h0, h, ne_eq, not_false_eq_true, decide_true, Bool.true_and]
theorem all_of {s : List UInt8} (h : ∀ j, j < s.length → inW (s.getD j 0) = true) : s.all inW = true := by
  rw [List.all_eq_true]; intro x hx
  obtain ⟨j, hj, rfl⟩ := List.getElem_of_mem hx
  have := h j hj; rwa [getD_lt hj] at this
theorem all_not {s : List UInt8} {j : Nat} (hj : j < s.length) (h : inW (s.getD j 0) = false) : s.all inW = false := by
  rw [Bool.eq_false_iff]; intro ha
  rw [List.all_eq_true] at ha
  have := ha _ (List.getElem_mem hj)
  rw [getD_lt hj] at h; rw [h] at this; cases this
set_option maxHeartbeats 2000000 in
theorem isWordA_ok (s : List UInt8) : FnOk Tryz.prog 67 [.str s] (.bool (isWd s)) [] := by
  refine FnOk.of_vc Tryz.func67 rfl (by decide) (by simp [Tryz.f67]) [.tmp 2] rfl fun w0 T0 _ => ?_
  simp only [Tryz.f67, argEnv]
  by_cases h0 : s = []
  · (repeat' first | with_reducible (first | intro _ | refine rc ?_ | refine rl ?_ | refine rh ?_ | refine rt ?_ | refine rf ?_ | refine rs ?_ | refine And.intro ?_ ?_) | omega | simp (maxSteps := 1000000) only [go_sem, simprocAttr, ↓reduceIte, h0])
    refine Ret.auto 0 ?_ rfl ?_ <;> simp only [go_sem, reduceCtorEq, reduceIte, Nat.reduceEqDiff, Nat.reduceLT, Nat.reduceLeDiff, Int.natCast_succ, Post, isWd_nil]
  · by_cases h1 : 40 < (s.length : Int)
    · (repeat' first | with_reducible (first | intro _ | refine rc ?_ | refine rl ?_ | refine rh ?_ | refine rt ?_ | refine rf ?_ | refine rs ?_ | refine And.intro ?_ ?_) | omega | simp (maxSteps := 1000000) only [go_sem, simprocAttr, ↓reduceIte, h0, h1])
      refine Ret.auto 0 ?_ rfl ?_ <;> simp only [go_sem, reduceCtorEq, reduceIte, Nat.reduceEqDiff, Nat.reduceLT, Nat.reduceLeDiff, Int.natCast_succ, Post, isWd_long h1]
    · have hp : 0 < s.length := List.length_pos_iff.2 h0
      have hp2 : (0 : Int) < s.length := by omega
      have k := letter_ok (s.getD 0 0)
      have k2 := letter_ok (s.getD (s.length - 1) 0)
      have e := isWd_mid h0 h1
      have et : ((s.length : Int) - 1).toNat = s.length - 1 := by omega
      (repeat' first | with_reducible (first | intro _ | refine rc ?_ | refine rl ?_ | refine rh ?_ | refine rt ?_ | refine rf ?_ | refine rs ?_ | refine And.intro ?_ ?_) | omega | simp (maxSteps := 1000000) only [go_sem, simprocAttr, ↓reduceIte, h0, h1, hp2])
      refine VcCall.k k ?_
      cases hL : isL (s.getD 0 0) with
      | false =>
        (repeat' first | with_reducible (first | intro _ | refine rc ?_ | refine rl ?_ | refine rh ?_ | refine rt ?_ | refine rf ?_ | refine rs ?_ | refine And.intro ?_ ?_) | omega | simp (maxSteps := 1000000) only [go_sem, simprocAttr, ↓reduceIte, hL])
        refine Ret.auto 0 ?_ rfl ?_ <;> simp only [go_sem, reduceCtorEq, reduceIte, Nat.reduceEqDiff, Nat.reduceLT, Nat.reduceLeDiff, Int.natCast_succ, Post, e, hL, Bool.false_and]
      | true =>
        (repeat' first | with_reducible (first | intro _ | refine rc ?_ | refine rl ?_ | refine rh ?_ | refine rt ?_ | refine rf ?_ | refine rs ?_ | refine And.intro ?_ ?_) | omega | simp (maxSteps := 1000000) only [go_sem, simprocAttr, ↓reduceIte, hL, et])
        refine VcCall.k k2 ?_
        cases hL2 : isL (s.getD (s.length - 1) 0) with
        | false =>
          (repeat' first | with_reducible (first | intro _ | refine rc ?_ | refine rl ?_ | refine rh ?_ | refine rt ?_ | refine rf ?_ | refine rs ?_ | refine And.intro ?_ ?_) | omega | simp (maxSteps := 1000000) only [go_sem, simprocAttr, ↓reduceIte, hL2])
          refine Ret.auto 0 ?_ rfl ?_ <;> simp only [go_sem, reduceCtorEq, reduceIte, Nat.reduceEqDiff, Nat.reduceLT, Nat.reduceLeDiff, Int.natCast_succ, Post, e, hL, hL2, Bool.false_and, Bool.and_false]
        | true =>
          (repeat' first | with_reducible (first | intro _ | refine rc ?_ | refine rl ?_ | refine rh ?_ | refine rt ?_ | refine rf ?_ | refine rs ?_ | refine And.intro ?_ ?_) | omega | simp (maxSteps := 1000000) only [go_sem, simprocAttr, ↓reduceIte, hL2])
          refine VcLoop.intro (fun i : Nat => ⟨37, [(28, .int .i64 i), (27, .int .i64 s.length), (0, .str s)], [], 0⟩) (fun i => i ≤ s.length ∧ ∀ j, j < i → inW (s.getD j 0) = true) (fun i => s.length - i) 0 ?_ ⟨Nat.zero_le _, fun j hj => absurd hj (Nat.not_lt_zero j)⟩ fun i hi => ?_
          · refine Ent.auto0 rfl ?_ ?_ <;> simp only [go_sem, reduceCtorEq, reduceIte, Nat.reduceEqDiff, Nat.reduceLT, Nat.reduceLeDiff, Int.natCast_succ]
          obtain ⟨hi, ha⟩ := hi
          have k3 := inWord_ok (s.getD i 0)
          (repeat' first | with_reducible (first | intro _ | refine rc ?_ | refine rl ?_ | refine rh ?_ | refine rt ?_ | refine rf ?_ | refine rs ?_ | refine And.intro ?_ ?_) | omega | simp (maxSteps := 1000000) only [go_sem, simprocAttr, ↓reduceIte, Int.toNat_natCast])
          · refine VcCall.k k3 ?_
            cases hW : inW (s.getD i 0) with
            | false =>
              have hf := all_not (by omega) hW
              (repeat' first | with_reducible (first | intro _ | refine rc ?_ | refine rl ?_ | refine rh ?_ | refine rt ?_ | refine rf ?_ | refine rs ?_ | refine And.intro ?_ ?_) | omega | simp (maxSteps := 1000000) only [go_sem, simprocAttr, ↓reduceIte, hW])
              refine Ret.auto 0 ?_ rfl ?_ <;> simp only [go_sem, reduceCtorEq, reduceIte, Nat.reduceEqDiff, Nat.reduceLT, Nat.reduceLeDiff, Int.natCast_succ, Post, e, hf, Bool.and_false]
            | true =>
              (repeat' first | with_reducible (first | intro _ | refine rc ?_ | refine rl ?_ | refine rh ?_ | refine rt ?_ | refine rf ?_ | refine rs ?_ | refine And.intro ?_ ?_) | omega | simp (maxSteps := 1000000) only [go_sem, simprocAttr, ↓reduceIte, hW])
              refine ⟨i + 1, Ent.auto0 rfl ?_ ?_, ⟨by omega, fun j hj => ?_⟩, by omega⟩
              · simp only [go_sem, reduceCtorEq, reduceIte, Nat.reduceEqDiff, Nat.reduceLT, Nat.reduceLeDiff, Int.natCast_succ]
              · simp only [go_sem, reduceCtorEq, reduceIte, Nat.reduceEqDiff, Nat.reduceLT, Nat.reduceLeDiff, Int.natCast_succ]
              · by_cases hji : j = i
                · rw [hji]; exact hW
                · exact ha j (by omega)
          · have hf := all_of fun j hj => ha j (by omega)
            refine Ret.auto 0 ?_ rfl ?_ <;> simp only [go_sem, reduceCtorEq, reduceIte, Nat.reduceEqDiff, Nat.reduceLT, Nat.reduceLeDiff, Int.natCast_succ, Post, e, hL, hL2, hf, Bool.and_true]
theorem isWord_ok (s : List UInt8) (hs : s.length ≤ 1000000000000) : FnOk Tryz.prog 67 [.str s] (.bool (isWd s)) [] := isWordA_ok s
end Go.Fv.Y
