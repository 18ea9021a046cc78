/-
  Operations that read: lists of cells, rows, their parts.
-/
import Derived.Test.YtfebnhmnkgnofaaDoorFvPure
namespace Go.Fv
open Go.RowKit
set_option linter.unusedVariables false
set_option linter.unusedSimpArgs false
set_option linter.unnecessarySimpa false

def elemA : RowV → Nat → List AV
  | .bools l, i => [.bool (l.getD i false)]
  | .ints k l, i => [.int k (l.getD i 0)]
  | .strs l, i => [.str (l.getD i [])]
  | .objs _ l, i => l.getD i []
def subRow : RowV → Nat → Nat → RowV
  | .bools l, lo, hi => .bools ((l.drop lo).take (hi - lo))
  | .ints k l, lo, hi => .ints k ((l.drop lo).take (hi - lo))
  | .strs l, lo, hi => .strs ((l.drop lo).take (hi - lo))
  | .objs sz l, lo, hi => .objs sz ((l.drop lo).take (hi - lo))

theorem RvL.length {c : Ctx} : ∀ {l : List AV} {vs : List Value}, RvL c l vs → vs.length = l.length
  | _, _, .nil => rfl
  | _, _, .cons _ _ _ _ _ _ t => by simp [RvL.length t]
theorem RvL.drop {c : Ctx} : ∀ {l : List AV} {vs : List Value} (n : Nat), RvL c l vs → RvL c (l.drop n) (vs.drop n)
  | _, _, 0, h => h
  | _, _, _ + 1, .nil => .nil
  | _, _, n + 1, .cons _ _ _ _ _ _ t => by simpa using RvL.drop n t
theorem RvL.take {c : Ctx} : ∀ {l : List AV} {vs : List Value} (n : Nat), RvL c l vs → RvL c (l.take n) (vs.take n)
  | _, _, 0, _ => by simpa using .nil
  | _, _, _ + 1, .nil => .nil
  | _, _, n + 1, .cons x v l vs h h1 t => by simpa using .cons x v _ _ h h1 (RvL.take n t)
theorem RvL.append {c : Ctx} : ∀ {l l' : List AV} {vs vs' : List Value}, RvL c l vs → RvL c l' vs' → RvL c (l ++ l') (vs ++ vs')
  | _, _, _, _, .nil, h => h
  | _, _, _, _, .cons x v l vs h h1 t, h' => .cons x v _ _ h h1 (RvL.append t h')
theorem RvL.get {c : Ctx} : ∀ {l : List AV} {vs : List Value} {i : Nat} {x : AV}, RvL c l vs → l[i]? = some x → ∃ v, vs[i]? = some v ∧ Rv c x v
  | _, _, 0, _, .cons x v l vs h h1 t, e => by cases e; exact ⟨v, rfl, h⟩
  | _, _, i + 1, _, .cons x v l vs h h1 t, e => by simpa using RvL.get (i := i) t (by simpa using e)
theorem RvT.get {c : Ctx} : ∀ {l : List AV} {vs : List Value} {i : Nat} {x : AV}, RvT c l vs → l[i]? = some x → ∃ v, vs[i]? = some v ∧ Rv c x v
  | _, _, 0, _, .cons x v l vs h t, e => by cases e; exact ⟨v, rfl, h⟩
  | _, _, i + 1, _, .cons x v l vs h t, e => by simpa using RvT.get (i := i) t (by simpa using e)
theorem RvT.length {c : Ctx} : ∀ {l : List AV} {vs : List Value}, RvT c l vs → vs.length = l.length
  | _, _, .nil => rfl
  | _, _, .cons _ _ _ _ _ t => by simp [RvT.length t]
theorem RvT.append {c : Ctx} : ∀ {l l' : List AV} {vs vs' : List Value}, RvT c l vs → RvT c l' vs' → RvT c (l ++ l') (vs ++ vs')
  | _, _, _, _, .nil, h => h
  | _, _, _, _, .cons x v l vs h t, h' => .cons x v _ _ h (RvT.append t h')
theorem RvL.one {c : Ctx} : ∀ {l : List AV} {vs : List Value}, RvL c l vs → ∀ u, u ∈ vs → u.oneCell' = true
  | _, _, .cons x v l vs h h1 t, u, hu => by
    cases List.mem_cons.1 hu with
    | inl e => subst e; exact h1
    | inr e => exact RvL.one t u e

theorem RowC.len {c : Ctx} {r : RowV} {cells : List Value} (h : RowC c r cells) : cells.length = r.len * r.sz := by
  cases h with
  | bools l => simp [RowV.len, RowV.sz]
  | ints k l _ => simp [RowV.len, RowV.sz]
  | strs l _ => simp [RowV.len, RowV.sz]
  | objs sz l cells hz h =>
    simp only [RowV.len, RowV.sz]
    clear hz
    induction l generalizing cells with
    | nil => cases h; simp
    | cons o l ih =>
      cases h with
      | cons _ _ vs _ cs hh hid hl t => simp [ih t, hl, Nat.succ_mul, Nat.add_comm]
theorem ObjsC.one {c : Ctx} {sz : Nat} : ∀ {l : List (List AV)} {cells : List Value}, ObjsC c sz l cells → ∀ u, u ∈ cells → u.oneCell' = true
  | _, _, .cons _ o vs l cs h hid hl t, u, hu => by
    cases List.mem_append.1 hu with
    | inl e => exact h.one u e
    | inr e => exact ObjsC.one t u e
theorem RowC.one {c : Ctx} {r : RowV} {cells : List Value} (h : RowC c r cells) : ∀ u, u ∈ cells → u.oneCell' = true := by
  cases h with
  | bools l => intro u hu; obtain ⟨_, _, rfl⟩ := List.mem_map.1 hu; rfl
  | ints k l _ => intro u hu; obtain ⟨_, _, rfl⟩ := List.mem_map.1 hu; rfl
  | strs l _ => intro u hu; obtain ⟨_, _, rfl⟩ := List.mem_map.1 hu; rfl
  | objs sz l cells hz h => exact h.one
theorem RowC.pos {c : Ctx} {r : RowV} {cells : List Value} (h : RowC c r cells) : 0 < r.sz := by
  cases h <;> simp [RowV.sz] <;> assumption

theorem ObjsC.elem {c : Ctx} {sz : Nat} : ∀ {l : List (List AV)} {cells : List Value} {i : Nat}, ObjsC c sz l cells → i < l.length →
    RvL c (l.getD i []) ((cells.drop (i * sz)).take sz)
  | _, _, 0, .cons _ o vs l cs h hid hl t, _ => by
    simpa [← hl] using h
  | _, _, i + 1, .cons _ o vs l cs h hid hl t, hi => by
    have e : (vs ++ cs).drop ((i + 1) * sz) = cs.drop (i * sz) := by
      rw [Nat.succ_mul, Nat.add_comm, List.drop_append, ← hl]; simp
    rw [e]
    simpa using ObjsC.elem (i := i) t (by simpa using hi)
theorem ObjsC.drop {c : Ctx} {sz : Nat} : ∀ {l : List (List AV)} {cells : List Value} (n : Nat), ObjsC c sz l cells → ObjsC c sz (l.drop n) (cells.drop (n * sz))
  | _, _, 0, h => by simpa using h
  | _, _, n + 1, .nil _ => by simpa using .nil _
  | _, _, n + 1, .cons _ o vs l cs h hid hl t => by
    have e : (vs ++ cs).drop ((n + 1) * sz) = cs.drop (n * sz) := by
      rw [Nat.succ_mul, Nat.add_comm, List.drop_append, ← hl]; simp
    rw [e]; simpa using ObjsC.drop n t
theorem ObjsC.take {c : Ctx} {sz : Nat} : ∀ {l : List (List AV)} {cells : List Value} (n : Nat), ObjsC c sz l cells → ObjsC c sz (l.take n) (cells.take (n * sz))
  | _, _, 0, h => by simpa using .nil _
  | _, _, n + 1, .nil _ => by simpa using .nil _
  | _, _, n + 1, .cons _ o vs l cs h hid hl t => by
    have e : (vs ++ cs).take ((n + 1) * sz) = vs ++ cs.take (n * sz) := by
      rw [Nat.succ_mul, Nat.add_comm, List.take_append, ← hl, List.take_of_length_le (by omega)]; simp
    rw [e]; simpa using .cons sz o vs _ _ h hid hl (ObjsC.take n t)
theorem ObjsC.append {c : Ctx} {sz : Nat} : ∀ {l l' : List (List AV)} {cells cells' : List Value}, ObjsC c sz l cells → ObjsC c sz l' cells' → ObjsC c sz (l ++ l') (cells ++ cells')
  | _, _, _, _, .nil _, h => by simpa using h
  | _, _, _, _, .cons _ o vs l cs h hid hl t, h' => by
    rw [List.append_assoc, List.cons_append]; exact .cons sz o vs _ _ h hid hl (ObjsC.append t h')

theorem RowC.elem {c : Ctx} {r : RowV} {cells : List Value} {i : Nat} (h : RowC c r cells) (hi : i < r.len) : RvL c (elemA r i) ((cells.drop (i * r.sz)).take r.sz) := by
  cases h with
  | bools l =>
    simp only [RowV.len] at hi
    have : ((l.map Value.bool).drop (i * 1)).take 1 = [Value.bool (l.getD i false)] := by
      rw [Nat.mul_one, List.drop_eq_getElem_cons (by simpa using hi)]; simp [List.getD, hi]
    simp only [RowV.sz, elemA]; rw [this]; exact .cons _ _ _ _ (.bool _) rfl .nil
  | ints k l hk =>
    simp only [RowV.len] at hi
    have : ((l.map (Value.int k)).drop (i * 1)).take 1 = [Value.int k (l.getD i 0)] := by
      rw [Nat.mul_one, List.drop_eq_getElem_cons (by simpa using hi)]; simp [List.getD, hi]
    simp only [RowV.sz, elemA]; rw [this]
    exact .cons _ _ _ _ (.int _ _ (hk _ (by simp [List.getD, hi]))) rfl .nil
  | strs l hs =>
    simp only [RowV.len] at hi
    have : ((l.map fun s => Value.string ⟨s.toArray⟩).drop (i * 1)).take 1 = [Value.string ⟨(l.getD i []).toArray⟩] := by
      rw [Nat.mul_one, List.drop_eq_getElem_cons (by simpa using hi)]; simp [List.getD, hi]
    simp only [RowV.sz, elemA]; rw [this]
    exact .cons _ _ _ _ (.str _ (hs _ (by simp [List.getD, hi]))) rfl .nil
  | objs sz l cells hz h => simp only [RowV.sz, elemA]; exact h.elem hi

theorem ObjsC.elemId {c : Ctx} {sz : Nat} : ∀ {l : List (List AV)} {cells : List Value} {i : Nat}, ObjsC c sz l cells → noIdL (l.getD i []) = true
  | _, _, _, .nil _ => rfl
  | _, _, 0, .cons _ o vs l cs h hid hl t => by simpa using hid
  | _, _, i + 1, .cons _ o vs l cs h hid hl t => by simpa using ObjsC.elemId (i := i) t
theorem RowC.elemId {c : Ctx} {r : RowV} {cells : List Value} {i : Nat} (h : RowC c r cells) : noIdL (elemA r i) = true := by
  cases h with
  | objs sz l cells hz h => exact h.elemId
  | _ => rfl
theorem noIdL_drop : ∀ (l : List AV) (n : Nat), noIdL l = true → noIdL (l.drop n) = true
  | _, 0, h => h
  | [], _ + 1, _ => rfl
  | x :: l, n + 1, h => by
    simp only [noIdL, Bool.and_eq_true] at h
    exact noIdL_drop l n h.2

theorem RowC.sub {c : Ctx} {r : RowV} {cells : List Value} (lo hi : Nat) (h : RowC c r cells) : RowC c (subRow r lo hi) ((cells.drop (lo * r.sz)).take ((hi - lo) * r.sz)) := by
  cases h with
  | bools l => simp only [RowV.sz, subRow, Nat.mul_one, ← List.map_drop, ← List.map_take]; exact .bools _
  | ints k l hk =>
    simp only [RowV.sz, subRow, Nat.mul_one, ← List.map_drop, ← List.map_take]
    exact .ints _ _ fun x hx => hk x (List.mem_of_mem_drop (List.mem_of_mem_take hx))
  | strs l hs =>
    simp only [RowV.sz, subRow, Nat.mul_one, ← List.map_drop, ← List.map_take]
    exact .strs _ fun x hx => hs x (List.mem_of_mem_drop (List.mem_of_mem_take hx))
  | objs sz l cells hz h => simp only [RowV.sz, subRow]; exact .objs _ _ _ hz ((h.drop lo).take (hi - lo))
theorem subRow_len (r : RowV) (lo hi : Nat) (h : hi ≤ r.len) : (subRow r lo hi).len = hi - lo := by
  cases r <;> simp [subRow, RowV.len] at * <;> omega

theorem CellsAt.drop {c : Ctx} {a : Addr} {cells : List Value} (h : CellsAt c a cells) (n : Nat) : CellsAt c (a.add n) (cells.drop n) := by
  obtain ⟨h1, h2, h3⟩ := h
  have hb : (a.add n).block = a.block := by unfold Addr.add; split <;> rfl
  refine ⟨trivial, fun hn => by rw [hb]; exact h2 fun e => hn (by simp [e]), fun j u hu => ?_⟩
  rw [List.getElem?_drop] at hu
  have := h3 _ _ hu
  have e : (a.add n).add j = a.add (n + j) := by
    unfold Addr.add
    by_cases hn : n = 0
    · subst hn; simp
    · by_cases hj : j = 0
      · subst hj; simp [hn]
      · have : ¬ (n = 0 ∧ j = 0) := fun h => hn h.1
        simp [hn, hj, Nat.add_assoc]
  rw [e]; exact this
theorem CellsAt.take {c : Ctx} {a : Addr} {cells : List Value} (h : CellsAt c a cells) (n : Nat) : CellsAt c a (cells.take n) := by
  obtain ⟨h1, h2, h3⟩ := h
  refine ⟨h1, fun hn => h2 fun e => hn (by simp [e]), fun j u hu => h3 j u ?_⟩
  rw [List.getElem?_take] at hu
  split at hu
  · exact hu
  · cases hu

/-! ### Loading from a list of cells -/
def aggB : TypeDesc → Bool
  | .struct _ | .array _ _ => true
  | _ => false
def knowInt (c : AV) (K : Prop) : Prop := match c with | .int k n => Asm (InK k n) K | _ => K
def ldCells (P : Program) (t : TypeId) (cs : List AV) (K : AV → Prop) : Prop :=
  match P.underlying t with
  | none => False
  | some d => bif aggB d then Chk (P.cellsOf t ≤ cs.length) (K (.agg (cs.take (P.cellsOf t)))) else match cs with | [] => False | c :: _ => knowInt c (K c)

theorem isAgg_run {P : Program} {t : TypeId} {d : TypeDesc} (h : P.underlying t = some d) (w : World) : (isAgg t).run P w = .ok (aggB d) w := by
  unfold isAgg
  simp only [Sem.run_bind, run_underlying h, Result.andThen]
  cases d <;> rfl
theorem info_of_underlying {P : Program} {t : TypeId} {d : TypeDesc} (h : P.underlying t = some d) : ∃ i, P.info? t = some i := by
  unfold Program.underlying at h
  cases hi : P.info? t with
  | none => rw [hi] at h; cases h
  | some i => exact ⟨i, rfl⟩
theorem sizeOf_run {P : Program} {t : TypeId} {i : TypeInfo} (h : P.info? t = some i) (w : World) : (sizeOf t).run P w = .ok (P.cellsOf t) w := by
  simp [sizeOf, typeInfo, h, Program.cellsOf]
theorem info_of_cells {P : Program} {t : TypeId} (h : 0 < P.cellsOf t) : ∃ i, P.info? t = some i := by
  unfold Program.cellsOf at h
  cases hi : P.info? t with
  | none => rw [hi] at h; simp at h
  | some i => exact ⟨i, rfl⟩

theorem ldCells_sound {P : Program} {t : TypeId} {cs : List AV} {K : AV → Prop} {c : Ctx} {vs : List Value} {a : Addr} (h : ldCells P t cs K) (hv : RvL c cs vs)
    (hc : ∀ j u, vs[j]? = some u → c.w.cell? (a.add j) = some u) : ∃ r v, K r ∧ (loadVar t a).run P c.w = .ok v c.w ∧ Rv c r v := by
  unfold ldCells at h
  cases ht : P.underlying t with
  | none => rw [ht] at h; exact h.elim
  | some d =>
    rw [ht] at h
    obtain ⟨i, hi⟩ := info_of_underlying ht
    cases hd : aggB d with
    | true =>
      simp only [hd, cond_true] at h
      obtain ⟨hl, hk⟩ := h
      refine ⟨_, _, hk, ?_, .agg _ _ (hv.take (P.cellsOf t))⟩
      unfold loadVar
      have e : (vs.take (P.cellsOf t)).length = P.cellsOf t := by simp [hv.length]; omega
      have hr := run_loadCells_list (P := P) c.w a (vs.take (P.cellsOf t)) (fun j u hu => hc j u (by
        rw [List.getElem?_take] at hu
        split at hu
        · exact hu
        · cases hu))
      rw [e] at hr
      simp [Sem.run_bind, isAgg_run ht, hd, sizeOf_run hi, hr, Result.andThen]
    | false =>
      simp only [hd, cond_false] at h
      cases cs with
      | nil => exact h.elim
      | cons x l =>
        cases hv with
        | cons _ v _ vs hx h1 htl =>
          have hcell := hc 0 v (by simp)
          have e0 : a.add 0 = a := by simp [Addr.add]
          rw [e0] at hcell
          refine ⟨x, v, ?_, ?_, hx⟩
          · cases hx with
            | int k n hk => exact h hk
            | _ => exact h
          · unfold loadVar
            simp [Sem.run_bind, isAgg_run ht, hd, Result.andThen, load, Sem.run, hcell]
end Go.Fv
