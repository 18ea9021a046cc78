/-
  Owned rows that become values; literal slices; parts of structs; strings and slices of them; conversions.
-/
import Derived.Test.YtfebnhmnkgnofaaDoorFvOps4
namespace Go.Fv
open Go.RowKit
set_option linter.unusedVariables false
set_option linter.unusedSimpArgs false
set_option linter.unnecessarySimpa false

mutual
/-- What is owned becomes a value to read. -/
def frz (rows : List (Nat × Item)) : AV → AV × List (Nat × Item)
  | .own i => match lk rows i with
    | some (.row _ r) => (.ro r, del rows i)
    | _ => (.own i, rows)
  | .agg cs => (.agg (frzL rows cs).1, (frzL rows cs).2)
  | .dead => (.dead, rows)
  | .nilS => (.nilS, rows)
  | .bool b => (.bool b, rows)
  | .int k n => (.int k n, rows)
  | .str s => (.str s, rows)
  | .ro r => (.ro r, rows)
  | .cell cs => (.cell cs, rows)
  | .ptr i o => (.ptr i o, rows)
  | .elt a b c d => (.elt a b c d, rows)
  | .tup cs => (.tup cs, rows)
  | .fn f cs => (.fn f cs, rows)
  | .raw v => (.raw v, rows)
  | .opt b v => (.opt b v, rows)
def frzL (rows : List (Nat × Item)) : List AV → List AV × List (Nat × Item)
  | [] => ([], rows)
  | x :: l => ((frz rows x).1 :: (frzL (frz rows x).2 l).1, (frzL (frz rows x).2 l).2)
end

section
variable {w0 : World} {T0 : Nat → Prop}

theorem CtxLe.forget {m : Nat → Value} {s : S} {w : World} {B : Nat} {rows' : List (Nat × Item)} (h : ∀ i it, lk rows' i = some it → lk s.rows i = some it) : CtxLe (ctxOf T0 B m s w) (ctxOf T0 B m { s with rows := rows' } w) :=
  ctxLe_of (Nat.le_refl _) (fun _ _ => rfl) (fun _ _ _ => rfl) fun i it b hi hb _ => ⟨i, it, h i it hi, hb⟩

theorem del_sub (l : List (Nat × Item)) (k : Nat) : ∀ i it, lk (del l k) i = some it → lk l i = some it := by
  intro i it h
  rw [lk_del] at h
  split at h
  · cases h
  · exact h

mutual
theorem frz_sub : ∀ (x : AV) (rows : List (Nat × Item)) (i : Nat) (it : Item), lk (frz rows x).2 i = some it → lk rows i = some it
  | .own k, rows, i, it, h => by
    unfold frz at h
    split at h
    · exact del_sub _ _ _ _ h
    · exact h
  | .agg cs, rows, i, it, h => frzL_sub cs rows i it (by simpa only [frz] using h)
  | .dead, _, _, _, h => by simpa only [frz] using h
  | .nilS, _, _, _, h => by simpa only [frz] using h
  | .bool _, _, _, _, h => by simpa only [frz] using h
  | .int _ _, _, _, _, h => by simpa only [frz] using h
  | .str _, _, _, _, h => by simpa only [frz] using h
  | .ro _, _, _, _, h => by simpa only [frz] using h
  | .cell _, _, _, _, h => by simpa only [frz] using h
  | .ptr _ _, _, _, _, h => by simpa only [frz] using h
  | .elt _ _ _ _, _, _, _, h => by simpa only [frz] using h
  | .tup _, _, _, _, h => by simpa only [frz] using h
  | .fn _ _, _, _, _, h => by simpa only [frz] using h
  | .raw _, _, _, _, h => by simpa only [frz] using h
  | .opt _ _, _, _, _, h => by simpa only [frz] using h
theorem frzL_sub : ∀ (x : List AV) (rows : List (Nat × Item)) (i : Nat) (it : Item), lk (frzL rows x).2 i = some it → lk rows i = some it
  | [], rows, i, it, h => by simpa only [frzL] using h
  | x :: l, rows, i, it, h => frz_sub x rows i it (frzL_sub l _ i it (by simpa only [frzL] using h))
end

theorem own_ro {H : List (AV × Value)} {s : S} {a : Act} {w : World} {m : Nat → Value} (hm : RepM w0 T0 H s a w m) {i : Nat} {e : TypeId} {r : RowV} (hi : lk s.rows i = some (.row e r)) {rows' : List (Nat × Item)}
    (hsub : ∀ j it, lk rows' j = some it → lk s.rows j = some it) (hno : lk rows' i = none) : Rv (ctxOf T0 w0.heap.size m { s with rows := rows' } w) (.ro r) (m i) := by
  obtain ⟨n, cells, hc, hn, ho⟩ := (hm.rows i _ hi).2
  have hle := CtxLe.forget (T0 := T0) (m := m) (w := w) (B := w0.heap.size) hsub
  have hc' := hc.mono hle
  rcases ho.2 with ⟨hv, hz⟩ | ⟨g, cap, cur, hv, hg, hh, hnc, hcm, hcs, htake⟩
  · rw [hv]
    have hcl : cells = [] := List.eq_nil_of_length_eq_zero (by rw [ho.1, hz]; simp)
    subst hcl
    exact .roNil r hc'
  · have hcells := ho.cells (g := g) (by rw [hv]; rfl)
    rw [hv]
    refine .ro r ⟨g, 0, none⟩ n cap cells hc' hn hnc hcm ⟨trivial, fun _ => ⟨.inl hg, fun j jt hj hbj => ?_⟩, hcells⟩
    have := hm.sep i j _ jt g hi (hsub j jt hj) (by rw [hv]; rfl) hbj
    subst this
    rw [hno] at hj; cases hj

mutual
theorem frz_rv {H : List (AV × Value)} {a : Act} {w : World} {m : Nat → Value} {n : Nat} {env : List (Nat × AV)} {next : Nat} : ∀ (x : AV) (rows : List (Nat × Item)) (v : Value), RepM w0 T0 H ⟨n, env, rows, next⟩ a w m → Rv (ctxOf T0 w0.heap.size m ⟨n, env, rows, next⟩ w) x v →
    Rv (ctxOf T0 w0.heap.size m ⟨n, env, (frz rows x).2, next⟩ w) (frz rows x).1 v
  | .own k, rows, v, hm, hx => by
    unfold frz
    split
    · rename_i e r he
      cases hx with
      | own _ _ _ => exact own_ro hm he (del_sub _ _) (by rw [lk_del, if_pos rfl])
    · exact hx
  | .agg cs, rows, v, hm, hx => by
    simp only [frz]
    cases hx with
    | agg _ vs hl => exact .agg _ _ (frzL_rv cs rows vs hm hl)
  | .dead, _, _, _, hx => by simpa only [frz] using hx
  | .nilS, _, _, _, hx => by simpa only [frz] using hx
  | .bool _, _, _, _, hx => by simpa only [frz] using hx
  | .int _ _, _, _, _, hx => by simpa only [frz] using hx
  | .str _, _, _, _, hx => by simpa only [frz] using hx
  | .ro _, _, _, _, hx => by simpa only [frz] using hx
  | .cell _, _, _, _, hx => by simpa only [frz] using hx
  | .ptr _ _, _, _, _, hx => by simpa only [frz] using hx
  | .elt _ _ _ _, _, _, _, hx => by simpa only [frz] using hx
  | .tup _, _, _, _, hx => by simpa only [frz] using hx
  | .fn _ _, _, _, _, hx => by simpa only [frz] using hx
  | .raw _, _, _, _, hx => by simpa only [frz] using hx
  | .opt _ _, _, _, _, hx => by simpa only [frz] using hx
theorem frzL_rv {H : List (AV × Value)} {a : Act} {w : World} {m : Nat → Value} {n : Nat} {env : List (Nat × AV)} {next : Nat} : ∀ (x : List AV) (rows : List (Nat × Item)) (v : List Value), RepM w0 T0 H ⟨n, env, rows, next⟩ a w m → RvL (ctxOf T0 w0.heap.size m ⟨n, env, rows, next⟩ w) x v →
    RvL (ctxOf T0 w0.heap.size m ⟨n, env, (frzL rows x).2, next⟩ w) (frzL rows x).1 v
  | [], rows, v, hm, hx => by cases hx; exact .nil
  | x :: l, rows, v, hm, hx => by
    cases hx with
    | cons _ u _ us h h1 t =>
      simp only [frzL]
      have hm1 : RepM w0 T0 H ⟨n, env, (frz rows x).2, next⟩ a w m := hm.forget (frz rows x).2 (frz_sub x rows)
      have hle : CtxLe (ctxOf T0 w0.heap.size m ⟨n, env, rows, next⟩ w) (ctxOf T0 w0.heap.size m ⟨n, env, (frz rows x).2, next⟩ w) := CtxLe.forget (s := ⟨n, env, rows, next⟩) (frz_sub x rows)
      have hle2 : CtxLe (ctxOf T0 w0.heap.size m ⟨n, env, (frz rows x).2, next⟩ w) (ctxOf T0 w0.heap.size m ⟨n, env, (frzL (frz rows x).2 l).2, next⟩ w) := CtxLe.forget (s := ⟨n, env, (frz rows x).2, next⟩) (frzL_sub l _)
      exact .cons _ _ _ _ ((frz_rv x rows u hm h).mono hle2) h1 (frzL_rv l _ us hm1 (t.mono hle))
end

/-! ### Literal slices -/
def addElem (r : RowV) (v : AV) : Option RowV :=
  match r with
  | .bools l => match v with | .bool b => some (.bools (l ++ [b])) | _ => none
  | .ints k l => match v with | .int k' n => if k = k' then some (.ints k (l ++ [n])) else none | _ => none
  | .strs l => match v with | .str t => some (.strs (l ++ [t])) | _ => none
  | .objs sz l => match boxable v with | some cs => if cs.length = sz ∧ noIdL cs = true then some (.objs sz (l ++ [cs])) else none | none => none
def addElems : RowV → List AV → Option RowV
  | r, [] => some r
  | r, v :: l => match addElem r v with
    | some r' => addElems r' l
    | none => none

theorem addElem_ok {c : Ctx} {r r' : RowV} {cells : List Value} {x : AV} {v : Value} (hr : RowC c r cells) (hx : Rv c x v) (h : addElem r x = some r') :
    RowC c r' (cells ++ v.cells.toList) ∧ r'.len = r.len + 1 ∧ r'.sz = r.sz ∧ v.cells.size = r.sz ∧ ∀ u, u ∈ v.cells.toList → u.oneCell' = true := by
  cases hr with
  | bools l =>
    cases x with
    | bool b =>
      simp only [addElem] at h; cases h
      cases hx
      refine ⟨?_, by simp [RowV.len], rfl, rfl, fun u hu => by simp [Value.cells] at hu; subst hu; rfl⟩
      have := RowC.bools (c := c) (l ++ [b]); rw [List.map_append] at this; exact this
    | _ => simp only [addElem] at h; cases h
  | ints k l hk =>
    cases x with
    | int k' n =>
      simp only [addElem] at h
      split at h <;> cases h
      rename_i e; subst e
      cases hx with
      | int _ _ hn =>
        refine ⟨?_, by simp [RowV.len], rfl, rfl, fun u hu => by simp [Value.cells] at hu; subst hu; rfl⟩
        have := RowC.ints (c := c) k (l ++ [n]) (fun y hy => by
          cases List.mem_append.1 hy with
          | inl e => exact hk y e
          | inr e => rw [List.mem_singleton.1 e]; exact hn)
        rw [List.map_append] at this; exact this
    | _ => simp only [addElem] at h; cases h
  | strs l hs =>
    cases x with
    | str q =>
      simp only [addElem] at h; cases h
      cases hx with
      | str _ hn =>
        refine ⟨?_, by simp [RowV.len], rfl, rfl, fun u hu => by simp [Value.cells] at hu; subst hu; rfl⟩
        have := RowC.strs (c := c) (l ++ [q]) (fun y hy => by
          cases List.mem_append.1 hy with
          | inl e => exact hs y e
          | inr e => rw [List.mem_singleton.1 e]; exact hn)
        rw [List.map_append] at this; exact this
    | _ => simp only [addElem] at h; cases h
  | objs sz l cells hz ho =>
    simp only [addElem] at h
    cases hb : boxable x with
    | none => rw [hb] at h; cases h
    | some cs =>
      rw [hb] at h
      dsimp only at h
      split at h <;> cases h
      rename_i e
      have hl := boxable_ok hx hb
      have hlen := hl.length
      refine ⟨?_, by simp [RowV.len], rfl, by simp only [RowV.sz]; have := e.1; simp at hlen; omega, hl.one⟩
      refine .objs _ _ _ hz (ho.append ?_)
      have := ObjsC.cons (c := c) sz cs v.cells.toList [] [] hl e.2 (by rw [hlen, e.1]) (.nil sz)
      simpa using this

end
end Go.Fv
