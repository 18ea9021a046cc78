/-
  Small facts about lists.
-/
import Derived.Test.YtfebnhmnkgnofaaDoorFvSetX
namespace Go.Fv
theorem getD_lt {α : Type} {l : List α} {i : Nat} {d : α} (h : i < l.length) : l.getD i d = l[i] := by simp [List.getD, h]
theorem take_eq_iff {α : Type} [DecidableEq α] {a b : List α} (d : α) (h : a.length = b.length) : ∀ {i : Nat}, i ≤ a.length → ((∀ j, j < i → a.getD j d = b.getD j d) ↔ a.take i = b.take i)
  | 0, _ => by simp
  | i + 1, hi => by
    have ih := take_eq_iff d h (i := i) (by omega)
    rw [List.take_succ_eq_append_getElem (by omega), List.take_succ_eq_append_getElem (by omega)]
    constructor
    · intro hh
      have h1 := ih.1 fun j hj => hh j (by omega)
      have h2 := hh i (by omega)
      rw [getD_lt (by omega), getD_lt (by omega)] at h2
      rw [h1, h2]
    · intro hh j hj
      have := List.append_inj hh (by simp; omega)
      by_cases e : j = i
      · subst e
        rw [getD_lt (by omega), getD_lt (by omega)]
        simpa using this.2
      · exact ih.2 this.1 j (by omega)
theorem eq_of_getD {α : Type} [DecidableEq α] {a b : List α} (d : α) (h : a.length = b.length) (hh : ∀ j, j < a.length → a.getD j d = b.getD j d) : a = b := by
  have := (take_eq_iff d h (Nat.le_refl _)).1 hh
  rwa [List.take_length, h, List.take_length] at this

theorem getD_bd {l : List Int} {A B : Int} (h : ∀ x, x ∈ l → A ≤ x ∧ x ≤ B) (hA : A ≤ 0) (hB : 0 ≤ B) (j : Nat) : A ≤ l.getD j 0 ∧ l.getD j 0 ≤ B := by
  rw [List.getD_eq_getElem?_getD]
  cases hq : l[j]? with
  | none => exact ⟨hA, hB⟩
  | some y => exact h y (List.mem_of_getElem? hq)
theorem toNat_pred (n : Nat) : ((n : Int) - 1).toNat = n - 1 := by omega
theorem renL_bools (p : Nat → Nat) : ∀ l : List Bool, renL p (l.map .bool) = l.map .bool
  | [] => rfl
  | b :: l => by simp only [List.map_cons, renL, ren]; rw [renL_bools p l]
theorem renL_ints (p : Nat → Nat) (k : IntKind) : ∀ l : List Int, renL p (l.map (.int k)) = l.map (.int k)
  | [] => rfl
  | b :: l => by simp only [List.map_cons, renL, ren]; rw [renL_ints p k l]
theorem belowL_bools (n : Nat) : ∀ l : List Bool, belowL n (l.map .bool) = true
  | [] => rfl
  | b :: l => by simp only [List.map_cons, belowL, below, Bool.true_and]; exact belowL_bools n l
theorem belowL_ints (n : Nat) (k : IntKind) : ∀ l : List Int, belowL n (l.map (.int k)) = true
  | [] => rfl
  | b :: l => by simp only [List.map_cons, belowL, below, Bool.true_and]; exact belowL_ints n k l
theorem mkL_bools : ∀ (l : List Bool) (y : List AV), mkL (l.map .bool) y = []
  | [], _ => by simp [mkL]
  | b :: l, y => by
    simp only [List.map_cons, mkL]
    split
    · simp only [mkV, List.nil_append]; exact mkL_bools l _
    · rfl
theorem mkL_ints (k : IntKind) : ∀ (l : List Int) (y : List AV), mkL (l.map (.int k)) y = []
  | [], _ => by simp [mkL]
  | b :: l, y => by
    simp only [List.map_cons, mkL]
    split
    · simp only [mkV, List.nil_append]; exact mkL_ints k l _
    · rfl
theorem rep_bools (n : Nat) (b : Bool) : List.replicate n (AV.bool b) = (List.replicate n b).map .bool := by simp
theorem rep_ints (n : Nat) (k : IntKind) (x : Int) : List.replicate n (AV.int k x) = (List.replicate n x).map (.int k) := by simp
theorem noIdL_bools : ∀ l : List Bool, noIdL (l.map .bool) = true
  | [] => rfl
  | b :: l => by simp only [List.map_cons, noIdL, noId, Bool.true_and]; exact noIdL_bools l
theorem noIdL_ints (k : IntKind) : ∀ l : List Int, noIdL (l.map (.int k)) = true
  | [] => rfl
  | b :: l => by simp only [List.map_cons, noIdL, noId, Bool.true_and]; exact noIdL_ints k l
theorem allOk_bools (rows : List (Nat × Item)) (n : Nat) : ∀ l : List Bool, allOk (argOkN rows (n + 1)) (l.map .bool) (l.map .bool)
  | [] => rfl
  | b :: l => ⟨.bool b, l.map .bool, by simp [argOkN], allOk_bools rows n l, rfl⟩
theorem allOk_ints (rows : List (Nat × Item)) (n : Nat) (k : IntKind) : ∀ l : List Int, allOk (argOkN rows (n + 1)) (l.map (.int k)) (l.map (.int k))
  | [] => rfl
  | b :: l => ⟨.int k b, l.map (.int k), by simp [argOkN], allOk_ints rows n k l, rfl⟩
theorem set_bools (l : List Bool) (i : Nat) (b : Bool) : (l.map AV.bool).set i (.bool b) = (l.set i b).map .bool := by rw [List.map_set]
theorem set_ints (l : List Int) (k : IntKind) (i : Nat) (b : Int) : (l.map (AV.int k)).set i (.int k b) = (l.set i b).map (.int k) := by rw [List.map_set]
theorem take_bools (l : List Bool) (i : Nat) : (l.map AV.bool).take i = (l.take i).map .bool := by simp
theorem noRoL_bools : ∀ l : List Bool, noRoL (l.map .bool) = true
  | [] => rfl
  | b :: l => by simp only [List.map_cons, noRoL, noRo, Bool.true_and]; exact noRoL_bools l
theorem spl_eq : ∀ (cs bs : List AV) (off : Nat), off + cs.length ≤ bs.length → spl bs off cs = bs.take off ++ cs ++ bs.drop (off + cs.length)
  | [], bs, off, _ => by simp [spl]
  | c :: cs, bs, off, h => by
    simp only [List.length_cons] at h
    rw [spl, spl_eq cs _ _ (by simp; omega), List.take_set, List.drop_set, if_pos (by omega)]
    rw [List.take_succ_eq_append_getElem (by omega), List.set_append_right _ _ (by simp; omega)]
    have e : off - (List.take off bs).length = 0 := by simp; omega
    rw [e]
    simp only [List.set_cons_zero, List.length_cons, List.append_assoc, List.cons_append, List.nil_append]
    have e2 : off + 1 + cs.length = off + (cs.length + 1) := by omega
    rw [e2]
theorem spl_all {bs cs : List AV} (h : cs.length = bs.length) : spl bs 0 cs = cs := by
  rw [spl_eq _ _ _ (by omega)]; simp [h]
attribute [go_sem] renL_bools renL_ints belowL_bools belowL_ints noIdL_bools noIdL_ints List.length_map Nat.mul_one set_bools set_ints
theorem up_add (a b : Nat) : (a : Int) + (b : Int) = ((a + b : Nat) : Int) := rfl
theorem up_one (a : Nat) : (a : Int) + 1 = ((a + 1 : Nat) : Int) := rfl
theorem up_mul (a b : Nat) : (a : Int) * (b : Int) = ((a * b : Nat) : Int) := (Int.natCast_mul a b).symm
theorem up_tmod (a b : Nat) : (a : Int).tmod (b : Int) = ((a % b : Nat) : Int) := (Int.ofNat_tmod a b).symm
theorem up_tdiv (a b : Nat) : (a : Int).tdiv (b : Int) = ((a / b : Nat) : Int) := (Int.ofNat_tdiv a b).symm
end Go.Fv
