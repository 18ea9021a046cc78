/-
  A part of the proof of the claim: walks over the program's functions and the plain laws that these need. No condition of its own.
-/
import Derived.Test.YtfebnhmnkgnofaaDoorFvPart2
/-
  Owned rows that become values; literal slices; parts of structs; strings and slices of them; conversions.
-/

namespace Go.Fv
open Go.RowKit
set_option linter.unusedVariables false
set_option linter.unusedSimpArgs false
set_option linter.unnecessarySimpa false

mutual
/-- What is owned becomes a value to read. -/
def frz (rows : List (Nat × Item)) : AV → AV × List (Nat × Item)
  | .own i => match lk rows i with
    | some (.row _ r) => (.ro r, del rows i)
    | _ => (.own i, rows)
  | .agg cs => (.agg (frzL rows cs).1, (frzL rows cs).2)
  | .dead => (.dead, rows)
  | .nilS => (.nilS, rows)
  | .bool b => (.bool b, rows)
  | .int k n => (.int k n, rows)
  | .str s => (.str s, rows)
  | .ro r => (.ro r, rows)
  | .cell cs => (.cell cs, rows)
  | .ptr i o => (.ptr i o, rows)
  | .elt a b c d => (.elt a b c d, rows)
  | .tup cs => (.tup cs, rows)
  | .fn f cs => (.fn f cs, rows)
  | .raw v => (.raw v, rows)
  | .opt b v => (.opt b v, rows)
def frzL (rows : List (Nat × Item)) : List AV → List AV × List (Nat × Item)
  | [] => ([], rows)
  | x :: l => ((frz rows x).1 :: (frzL (frz rows x).2 l).1, (frzL (frz rows x).2 l).2)
end

section
variable {w0 : World} {T0 : Nat → Prop}

theorem CtxLe.forget {m : Nat → Value} {s : S} {w : World} {B : Nat} {rows' : List (Nat × Item)} (h : ∀ i it, lk rows' i = some it → lk s.rows i = some it) : CtxLe (ctxOf T0 B m s w) (ctxOf T0 B m { s with rows := rows' } w) :=
  ctxLe_of (Nat.le_refl _) (fun _ _ => rfl) (fun _ _ _ => rfl) fun i it b hi hb _ => ⟨i, it, h i it hi, hb⟩

theorem del_sub (l : List (Nat × Item)) (k : Nat) : ∀ i it, lk (del l k) i = some it → lk l i = some it := by
  intro i it h
  rw [lk_del] at h
  split at h
  · cases h
  · exact h

mutual
theorem frz_sub : ∀ (x : AV) (rows : List (Nat × Item)) (i : Nat) (it : Item), lk (frz rows x).2 i = some it → lk rows i = some it
  | .own k, rows, i, it, h => by
    unfold frz at h
    split at h
    · exact del_sub _ _ _ _ h
    · exact h
  | .agg cs, rows, i, it, h => frzL_sub cs rows i it (by simpa only [frz] using h)
  | .dead, _, _, _, h => by simpa only [frz] using h
  | .nilS, _, _, _, h => by simpa only [frz] using h
  | .bool _, _, _, _, h => by simpa only [frz] using h
  | .int _ _, _, _, _, h => by simpa only [frz] using h
  | .str _, _, _, _, h => by simpa only [frz] using h
  | .ro _, _, _, _, h => by simpa only [frz] using h
  | .cell _, _, _, _, h => by simpa only [frz] using h
  | .ptr _ _, _, _, _, h => by simpa only [frz] using h
  | .elt _ _ _ _, _, _, _, h => by simpa only [frz] using h
  | .tup _, _, _, _, h => by simpa only [frz] using h
  | .fn _ _, _, _, _, h => by simpa only [frz] using h
  | .raw _, _, _, _, h => by simpa only [frz] using h
  | .opt _ _, _, _, _, h => by simpa only [frz] using h
theorem frzL_sub : ∀ (x : List AV) (rows : List (Nat × Item)) (i : Nat) (it : Item), lk (frzL rows x).2 i = some it → lk rows i = some it
  | [], rows, i, it, h => by simpa only [frzL] using h
  | x :: l, rows, i, it, h => frz_sub x rows i it (frzL_sub l _ i it (by simpa only [frzL] using h))
end

theorem own_ro {H : List (AV × Value)} {s : S} {a : Act} {w : World} {m : Nat → Value} (hm : RepM w0 T0 H s a w m) {i : Nat} {e : TypeId} {r : RowV} (hi : lk s.rows i = some (.row e r)) {rows' : List (Nat × Item)}
    (hsub : ∀ j it, lk rows' j = some it → lk s.rows j = some it) (hno : lk rows' i = none) : Rv (ctxOf T0 w0.heap.size m { s with rows := rows' } w) (.ro r) (m i) := by
  obtain ⟨n, cells, hc, hn, ho⟩ := (hm.rows i _ hi).2
  have hle := CtxLe.forget (T0 := T0) (m := m) (w := w) (B := w0.heap.size) hsub
  have hc' := hc.mono hle
  rcases ho.2 with ⟨hv, hz⟩ | ⟨g, cap, cur, hv, hg, hh, hnc, hcm, hcs, htake⟩
  · rw [hv]
    have hcl : cells = [] := List.eq_nil_of_length_eq_zero (by rw [ho.1, hz]; simp)
    subst hcl
    exact .roNil r hc'
  · have hcells := ho.cells (g := g) (by rw [hv]; rfl)
    rw [hv]
    refine .ro r ⟨g, 0, none⟩ n cap cells hc' hn hnc hcm ⟨trivial, fun _ => ⟨.inl hg, fun j jt hj hbj => ?_⟩, hcells⟩
    have := hm.sep i j _ jt g hi (hsub j jt hj) (by rw [hv]; rfl) hbj
    subst this
    rw [hno] at hj; cases hj

mutual
theorem frz_rv {H : List (AV × Value)} {a : Act} {w : World} {m : Nat → Value} {n : Nat} {env : List (Nat × AV)} {next : Nat} : ∀ (x : AV) (rows : List (Nat × Item)) (v : Value), RepM w0 T0 H ⟨n, env, rows, next⟩ a w m → Rv (ctxOf T0 w0.heap.size m ⟨n, env, rows, next⟩ w) x v →
    Rv (ctxOf T0 w0.heap.size m ⟨n, env, (frz rows x).2, next⟩ w) (frz rows x).1 v
  | .own k, rows, v, hm, hx => by
    unfold frz
    split
    · rename_i e r he
      cases hx with
      | own _ _ _ => exact own_ro hm he (del_sub _ _) (by rw [lk_del, if_pos rfl])
    · exact hx
  | .agg cs, rows, v, hm, hx => by
    simp only [frz]
    cases hx with
    | agg _ vs hl => exact .agg _ _ (frzL_rv cs rows vs hm hl)
  | .dead, _, _, _, hx => by simpa only [frz] using hx
  | .nilS, _, _, _, hx => by simpa only [frz] using hx
  | .bool _, _, _, _, hx => by simpa only [frz] using hx
  | .int _ _, _, _, _, hx => by simpa only [frz] using hx
  | .str _, _, _, _, hx => by simpa only [frz] using hx
  | .ro _, _, _, _, hx => by simpa only [frz] using hx
  | .cell _, _, _, _, hx => by simpa only [frz] using hx
  | .ptr _ _, _, _, _, hx => by simpa only [frz] using hx
  | .elt _ _ _ _, _, _, _, hx => by simpa only [frz] using hx
  | .tup _, _, _, _, hx => by simpa only [frz] using hx
  | .fn _ _, _, _, _, hx => by simpa only [frz] using hx
  | .raw _, _, _, _, hx => by simpa only [frz] using hx
  | .opt _ _, _, _, _, hx => by simpa only [frz] using hx
theorem frzL_rv {H : List (AV × Value)} {a : Act} {w : World} {m : Nat → Value} {n : Nat} {env : List (Nat × AV)} {next : Nat} : ∀ (x : List AV) (rows : List (Nat × Item)) (v : List Value), RepM w0 T0 H ⟨n, env, rows, next⟩ a w m → RvL (ctxOf T0 w0.heap.size m ⟨n, env, rows, next⟩ w) x v →
    RvL (ctxOf T0 w0.heap.size m ⟨n, env, (frzL rows x).2, next⟩ w) (frzL rows x).1 v
  | [], rows, v, hm, hx => by cases hx; exact .nil
  | x :: l, rows, v, hm, hx => by
    cases hx with
    | cons _ u _ us h h1 t =>
      simp only [frzL]
      have hm1 : RepM w0 T0 H ⟨n, env, (frz rows x).2, next⟩ a w m := hm.forget (frz rows x).2 (frz_sub x rows)
      have hle : CtxLe (ctxOf T0 w0.heap.size m ⟨n, env, rows, next⟩ w) (ctxOf T0 w0.heap.size m ⟨n, env, (frz rows x).2, next⟩ w) := CtxLe.forget (s := ⟨n, env, rows, next⟩) (frz_sub x rows)
      have hle2 : CtxLe (ctxOf T0 w0.heap.size m ⟨n, env, (frz rows x).2, next⟩ w) (ctxOf T0 w0.heap.size m ⟨n, env, (frzL (frz rows x).2 l).2, next⟩ w) := CtxLe.forget (s := ⟨n, env, (frz rows x).2, next⟩) (frzL_sub l _)
      exact .cons _ _ _ _ ((frz_rv x rows u hm h).mono hle2) h1 (frzL_rv l _ us hm1 (t.mono hle))
end

/-! ### Literal slices -/
def addElem (r : RowV) (v : AV) : Option RowV :=
  match r with
  | .bools l => match v with | .bool b => some (.bools (l ++ [b])) | _ => none
  | .ints k l => match v with | .int k' n => if k = k' then some (.ints k (l ++ [n])) else none | _ => none
  | .strs l => match v with | .str t => some (.strs (l ++ [t])) | _ => none
  | .objs sz l => match boxable v with | some cs => if cs.length = sz ∧ noIdL cs = true then some (.objs sz (l ++ [cs])) else none | none => none
def addElems : RowV → List AV → Option RowV
  | r, [] => some r
  | r, v :: l => match addElem r v with
    | some r' => addElems r' l
    | none => none

theorem addElem_ok {c : Ctx} {r r' : RowV} {cells : List Value} {x : AV} {v : Value} (hr : RowC c r cells) (hx : Rv c x v) (h : addElem r x = some r') :
    RowC c r' (cells ++ v.cells.toList) ∧ r'.len = r.len + 1 ∧ r'.sz = r.sz ∧ v.cells.size = r.sz ∧ ∀ u, u ∈ v.cells.toList → u.oneCell' = true := by
  cases hr with
  | bools l =>
    cases x with
    | bool b =>
      simp only [addElem] at h; cases h
      cases hx
      refine ⟨?_, by simp [RowV.len], rfl, rfl, fun u hu => by simp [Value.cells] at hu; subst hu; rfl⟩
      have := RowC.bools (c := c) (l ++ [b]); rw [List.map_append] at this; exact this
    | _ => simp only [addElem] at h; cases h
  | ints k l hk =>
    cases x with
    | int k' n =>
      simp only [addElem] at h
      split at h <;> cases h
      rename_i e; subst e
      cases hx with
      | int _ _ hn =>
        refine ⟨?_, by simp [RowV.len], rfl, rfl, fun u hu => by simp [Value.cells] at hu; subst hu; rfl⟩
        have := RowC.ints (c := c) k (l ++ [n]) (fun y hy => by
          cases List.mem_append.1 hy with
          | inl e => exact hk y e
          | inr e => rw [List.mem_singleton.1 e]; exact hn)
        rw [List.map_append] at this; exact this
    | _ => simp only [addElem] at h; cases h
  | strs l hs =>
    cases x with
    | str q =>
      simp only [addElem] at h; cases h
      cases hx with
      | str _ hn =>
        refine ⟨?_, by simp [RowV.len], rfl, rfl, fun u hu => by simp [Value.cells] at hu; subst hu; rfl⟩
        have := RowC.strs (c := c) (l ++ [q]) (fun y hy => by
          cases List.mem_append.1 hy with
          | inl e => exact hs y e
          | inr e => rw [List.mem_singleton.1 e]; exact hn)
        rw [List.map_append] at this; exact this
    | _ => simp only [addElem] at h; cases h
  | objs sz l cells hz ho =>
    simp only [addElem] at h
    cases hb : boxable x with
    | none => rw [hb] at h; cases h
    | some cs =>
      rw [hb] at h
      dsimp only at h
      split at h <;> cases h
      rename_i e
      have hl := boxable_ok hx hb
      have hlen := hl.length
      refine ⟨?_, by simp [RowV.len], rfl, by simp only [RowV.sz]; have := e.1; simp at hlen; omega, hl.one⟩
      refine .objs _ _ _ hz (ho.append ?_)
      have := ObjsC.cons (c := c) sz cs v.cells.toList [] [] hl e.2 (by rw [hlen, e.1]) (.nil sz)
      simpa using this

end
end Go.Fv

/-
  Literals of slices, structs, arrays.
-/

namespace Go.Fv
open Go.RowKit
set_option linter.unusedVariables false
set_option linter.unusedSimpArgs false
set_option linter.unnecessarySimpa false

theorem splV_foldl (off : Nat) : ∀ (l : List Value) (k : Nat) (cs : Array Value), (l.zipIdx k).foldl (fun cs (p : Value × Nat) => cs.setIfInBounds (off + p.2) p.1) cs = (splV cs.toList (off + k) l).toArray
  | [], k, cs => by simp [splV]
  | c :: l, k, cs => by
    rw [List.zipIdx_cons, List.foldl_cons, splV_foldl off l (k + 1) _, splV]
    simp [Nat.add_assoc]
theorem fill_step (place : Nat → Option (Nat × Nat)) (cells : Array Value) (i : Nat) (v : Value) (rest : List (Nat × Value)) (off size : Nat) (hp : place i = some (off, size)) (h1 : v.cells.size = size) (h2 : off + v.cells.size ≤ cells.size) :
    Instr.fill place cells ((i, v) :: rest) = Instr.fill place (splV cells.toList off v.cells.toList).toArray rest := by
  simp only [Instr.fill, hp]
  rw [if_neg (by simp; omega)]
  congr 1
  have := splV_foldl off v.cells.toList 0 cells
  rw [Nat.add_zero] at this
  rw [← this, ← Array.foldl_toList, Array.toList_zipIdx]

def idxFrom : Nat → List (Nat × Operand) → Prop
  | _, [] => True
  | k, (i, _) :: l => i = k ∧ idxFrom (k + 1) l

section
variable {P : Program} {w0 : World} {T0 : Nat → Prop} {o : Oper} {s : S} {K : AV → S → Prop}

theorem frzT_rv {H : List (AV × Value)} {a : Act} {w : World} {m : Nat → Value} {n : Nat} {env : List (Nat × AV)} {next : Nat} : ∀ (x : List AV) (rows : List (Nat × Item)) (v : List Value), RepM w0 T0 H ⟨n, env, rows, next⟩ a w m → RvT (ctxOf T0 w0.heap.size m ⟨n, env, rows, next⟩ w) x v →
    RvT (ctxOf T0 w0.heap.size m ⟨n, env, (frzL rows x).2, next⟩ w) (frzL rows x).1 v
  | [], rows, v, hm, hx => by cases hx; exact .nil
  | x :: l, rows, v, hm, hx => by
    cases hx with
    | cons _ u _ us h t =>
      simp only [frzL]
      have hm1 : RepM w0 T0 H ⟨n, env, (frz rows x).2, next⟩ a w m := hm.forget (frz rows x).2 (frz_sub x rows)
      have hle : CtxLe (ctxOf T0 w0.heap.size m ⟨n, env, rows, next⟩ w) (ctxOf T0 w0.heap.size m ⟨n, env, (frz rows x).2, next⟩ w) := CtxLe.forget (s := ⟨n, env, rows, next⟩) (frz_sub x rows)
      have hle2 : CtxLe (ctxOf T0 w0.heap.size m ⟨n, env, (frz rows x).2, next⟩ w) (ctxOf T0 w0.heap.size m ⟨n, env, (frzL (frz rows x).2 l).2, next⟩ w) := CtxLe.forget (s := ⟨n, env, (frz rows x).2, next⟩) (frzL_sub l _)
      exact .cons _ _ _ _ ((frz_rv x rows u hm h).mono hle2) (frzT_rv l _ us hm1 (t.mono hle))

/-- A literal's elements, one behind the other. -/
theorem fill_elems {c : Ctx} (size : Nat) : ∀ (vals : List AV) (us : List Value) (ops : List (Nat × Value)) (k : Nat) (r r' : RowV) (pre suf : List Value), RowC c r pre → r.sz = size → r.len = k → RvT c vals us → addElems r vals = some r' → suf.length = vals.length * size →
    (ops.map (·.2) = us ∧ ops.map (·.1) = List.range' k us.length) →
    ∃ cells, Instr.fill (fun i => some (i * size, size)) (pre ++ suf).toArray ops = some cells.toArray ∧ RowC c r' cells ∧ r'.len = k + vals.length ∧ r'.sz = size
  | [], us, ops, k, r, r', pre, suf, hr, hs, hk, hv, ha, hl, ho => by
    cases hv
    have : ops = [] := by simpa using ho.1
    subst this
    simp only [addElems] at ha; cases ha
    have : suf = [] := List.eq_nil_of_length_eq_zero (by simpa using hl)
    subst this
    exact ⟨pre, by simp [Instr.fill], hr, by simpa using hk, hs⟩
  | x :: vals, us, ops, k, r, r', pre, suf, hr, hs, hk, hv, ha, hl, ho => by
    cases hv with
    | cons _ u _ us' hx ht =>
      cases ops with
      | nil => simp at ho
      | cons q ops =>
        obtain ⟨i, u2⟩ := q
        simp only [List.map_cons, List.cons.injEq, List.length_cons, List.range'_succ] at ho
        obtain ⟨⟨rfl, ho1⟩, rfl, ho2⟩ := ho
        simp only [addElems] at ha
        cases h1 : addElem r x with
        | none => rw [h1] at ha; cases ha
        | some r1 =>
          rw [h1] at ha
          obtain ⟨g1, g2, g3, g4, g5⟩ := addElem_ok hr hx h1
          have hpl : pre.length = i * size := by rw [hr.len, hs, hk]
          have hsl : size ≤ suf.length := by rw [hl, List.length_cons, Nat.succ_mul]; omega
          rw [fill_step _ _ i u2 ops (i * size) size rfl (by rw [g4, hs]) (by simp; omega)]
          have e1 : splV (pre ++ suf).toArray.toList (i * size) u2.cells.toList = (pre ++ u2.cells.toList) ++ suf.drop size := by
            show splV (pre ++ suf) (i * size) u2.cells.toList = _
            have := splV_right u2.cells.toList pre suf 0
            rw [Nat.add_zero, hpl] at this
            rw [this, splV_eq _ _ _ (by simp; omega)]
            simp [g4, hs]
          rw [e1]
          obtain ⟨cells, f1, f2, f3, f4⟩ := fill_elems size vals us' ops (i + 1) r1 r' (pre ++ u2.cells.toList) (suf.drop size) g1 (by rw [g3, hs]) (by rw [g2, hk]) ht ha (by rw [List.length_drop, hl, List.length_cons, Nat.succ_mul]; omega) ⟨ho1, ho2⟩
          exact ⟨cells, f1, f2, by rw [f3]; simp; omega, f4⟩

def vcBuildSlice (P : Program) (t : TypeId) (len : Nat) (parts : Array (Nat × Operand)) (s : S) (K : AV → S → Prop) : Prop :=
  match P.underlying t with
  | some (.slice e) => match zeroOf P e with
    | some z => Chk (ElemZ P e z) (Chk (parts.toList.length = len ∧ idxFrom 0 parts.toList ∧ (∀ x, x ∈ parts.toList → opndOk x.2) ∧ len * z.cells.size ≤ 16777216)
        (match addElems (zrow z 0) (frzL s.rows (evs s (parts.toList.map (·.2)))).1 with
          | some r => K (.own s.next) { s with rows := (s.next, .row e r) :: (frzL s.rows (evs s (parts.toList.map (·.2)))).2, next := s.next + 1 }
          | none => False))
    | none => False
  | _ => False

theorem idxFrom_range : ∀ (l : List (Nat × Operand)) (k : Nat), idxFrom k l → l.map (·.1) = List.range' k l.length
  | [], _, _ => rfl
  | (i, _) :: l, k, h => by simp only [List.map_cons, List.length_cons, List.range'_succ]; rw [h.1, idxFrom_range l (k + 1) h.2]

theorem vcBuildSlice_sound {t : TypeId} {len : Nat} {parts : Array (Nat × Operand)} (ho : o.op = .buildSlice t len parts) (h : vcBuildSlice P t len parts s K) : OpSem P w0 T0 o s K := by
  unfold vcBuildSlice at h
  cases ht : P.underlying t with
  | none => rw [ht] at h; exact h.elim
  | some d =>
    rw [ht] at h
    cases d with
    | slice e =>
      dsimp only at h
      cases hz : zeroOf P e with
      | none => rw [hz] at h; exact h.elim
      | some z =>
        rw [hz] at h
        obtain ⟨hez, ⟨hlen, hidx, hok, hsz⟩, h⟩ := h
        cases ha : addElems (zrow z 0) (frzL s.rows (evs s (parts.toList.map (·.2)))).1 with
        | none => rw [ha] at h; exact h.elim
        | some r =>
          rw [ha] at h
          refine OpSem.mem fun H a w m hm => ?_
          obtain ⟨n, env, rows, next⟩ := s
          have hev : RvT (ctxOf T0 w0.heap.size m ⟨n, env, rows, next⟩ w) (evs ⟨n, env, rows, next⟩ (parts.toList.map (·.2))) ((parts.toList.map (·.2)).map a.eval) := hm.evs (fun x hx => by
            obtain ⟨q, hq, rfl⟩ := List.mem_map.1 hx
            exact hok q hq)
          have hfr := frzT_rv _ _ _ hm hev
          have hm1 : RepM w0 T0 H ⟨n, env, (frzL rows (evs ⟨n, env, rows, next⟩ (parts.toList.map (·.2)))).2, next⟩ a w m := hm.forget _ (frzL_sub _ _)
          obtain ⟨i, hi, hiz, his, hib⟩ := hez.ex
          obtain ⟨q1, q2, q3⟩ := zrow_ok (ctxOf T0 w0.heap.size m ⟨n, env, (frzL rows (evs ⟨n, env, rows, next⟩ (parts.toList.map (·.2)))).2, next⟩ w) hez.ok 0
          have hml : (madeCells z.cells (len * z.cells.size)).toList.length = len * z.cells.size := by simp [size_madeCells]
          have hvl : (frzL rows (evs ⟨n, env, rows, next⟩ (parts.toList.map (·.2)))).1.length = len := by
            have := hfr.length; simp at this; rw [← hlen]; simp [this]
          obtain ⟨cells, f1, f2, f3, f4⟩ := fill_elems z.cells.size _ _ (parts.toList.map fun p => (p.1, a.eval p.2)) 0 (zrow z 0) r [] (madeCells z.cells (len * z.cells.size)).toList (by simpa using q1) q3 q2 hfr ha
            (by rw [hml, hvl]) ⟨by simp, by rw [List.map_map]; have := idxFrom_range parts.toList 0 hidx; simpa [Function.comp_def] using this⟩
          have hcl : cells.length = len * z.cells.size := by rw [f2.len, f3, f4, hvl, Nat.zero_add]
          have hnew := hm1.new (w' := w.alloc (.cells cells.toArray e)) (Below.allocB hm1.below _) (fun b hb => Below.heap_alloc w _ b hb)
            (.row e r) (.slice (some ⟨w.heap.size, 0, none⟩) len len) (fun b hb => by cases hb; exact Nat.le_refl _) (fun c' hle hw => by
              refine ⟨len, cells, f2.mono hle, by rw [f3, hvl, Nat.zero_add], ?_⟩
              rw [hw, f4]
              have hpos := zpos hez.ok
              refine ⟨hcl, .inr ⟨w.heap.size, len, cells.toArray, rfl, hm.lt, heap_alloc_new w _, Nat.le_refl _, ?_, by simpa using hcl, by rw [← hcl]; simp⟩⟩
              have : len ≤ len * z.cells.size := Nat.le_mul_of_pos_right _ hpos
              simp only [maxLen]; omega)
          refine ⟨_, _, _, _, _, h, .inl ?_, hold_own hnew rfl⟩
          unfold execOp; rw [ho]
          have hsize : (sizeOf e).run P w = .ok z.cells.size w := by simp [sizeOf, typeInfo, hi, his]
          have hz0 : (zeroValue e).run P w = .ok z w := by simp [zeroValue, typeInfo, hi, hiz]
          have hn16 : ¬ (16777216 < len * z.cells.size) := by omega
          have hfill : Instr.fill (fun i => some (i * z.cells.size, z.cells.size)) ((Array.range (len * z.cells.size)).map (z.cells[· % z.cells.size]!)) (parts.toList.map fun p => (p.1, a.eval p.2)) = some cells.toArray := by
            have := f1; rw [List.nil_append, Array.toArray_toList] at this; exact this
          have hps : (parts.map fun (i, x) => (i, a.eval x)).toList = parts.toList.map fun p => (p.1, a.eval p.2) := by simp
          by_cases h0 : len * z.cells.size = 0
          · have e1 : ∀ f : Nat → Value, (Array.range 0).map f = #[] := fun f => by simp
            rw [h0, e1] at hfill
            simp only [Instr.buildSlice, Sem.run_bind, run_underlying ht, Result.andThen, hsize, h0, hps]
            simp [e1, hfill, newRow]
          · simp only [Instr.buildSlice, Sem.run_bind, run_underlying ht, Result.andThen, hsize, hps]
            simp [h0, hz0, hn16, hfill, newRow]
    | _ => exact h.elim

/-! ### Literals of structs and arrays -/
def bparts (place : Nat → Option (Nat × Nat)) : List AV → List (Nat × AV) → Option (List AV)
  | cs, [] => some cs
  | cs, (i, v) :: l => match place i with
    | some (off, size) => match boxable v with
      | some us => if us.length = size ∧ off + size ≤ cs.length then bparts place (spl cs off us) l else none
      | none => none
    | none => none
theorem bparts_ok {c : Ctx} {place : Nat → Option (Nat × Nat)} : ∀ (parts : List (Nat × AV)) (ops : List (Nat × Value)) (cs cs' : List AV) (vs : List Value), RvL c cs vs → RvT c (parts.map (·.2)) (ops.map (·.2)) → parts.map (·.1) = ops.map (·.1) → bparts place cs parts = some cs' →
    ∃ vs', Instr.fill place vs.toArray ops = some vs'.toArray ∧ RvL c cs' vs'
  | [], ops, cs, cs', vs, h, hv, hi, hb => by
    have : ops = [] := by cases ops with | nil => rfl | cons q l => simp at hi
    subst this
    simp only [bparts] at hb; cases hb
    exact ⟨vs, by simp [Instr.fill], h⟩
  | (i, x) :: parts, ops, cs, cs', vs, h, hv, hi, hb => by
    cases ops with
    | nil => simp at hi
    | cons q ops =>
      obtain ⟨j, u⟩ := q
      simp only [List.map_cons, List.cons.injEq] at hi
      obtain ⟨rfl, hi⟩ := hi
      cases hv with
      | cons _ _ _ _ hx ht =>
        simp only [bparts] at hb
        cases hp : place i with
        | none => rw [hp] at hb; cases hb
        | some os =>
          obtain ⟨off, size⟩ := os
          rw [hp] at hb
          dsimp only at hb
          cases hbx : boxable x with
          | none => rw [hbx] at hb; cases hb
          | some us =>
            rw [hbx] at hb
            dsimp only at hb
            split at hb
            · rename_i e
              have hl := boxable_ok hx hbx
              have hlen := hl.length
              have hlen2 := h.length
              simp at hlen
              rw [fill_step place vs.toArray i u ops off size hp (by omega) (by simp; omega)]
              exact bparts_ok parts ops _ cs' _ (RvL.spl off h hl) ht hi hb
            · cases hb

def placeOf (P : Program) (d : TypeDesc) (i : Nat) : Option (Nat × Nat) :=
  match d with
  | .struct fs => match fs[i]? with
    | some f => some (f.offset, P.cellsOf f.type)
    | none => none
  | .array _ e => some (i * P.cellsOf e, P.cellsOf e)
  | _ => none
/-- The parts' types are there. -/
def fieldsOk (P : Program) : TypeDesc → Prop
  | .struct fs => ∀ f, f ∈ fs.toList → ∃ i, P.info? f.type = some i
  | .array _ e => ∃ i, P.info? e = some i
  | _ => False

def fieldsOkT (P : Program) (t : TypeId) : Prop := ∀ d, P.underlying t = some d → fieldsOk P d

def vcBuild (P : Program) (t : TypeId) (parts : Array (Nat × Operand)) (s : S) (K : AV → S → Prop) : Prop :=
  match P.underlying t, zeroOf P t with
  | some d, some z => Chk (fieldsOkT P t) (Chk ((∀ v, v ∈ z.cells.toList → v.oneCell' = true ∧ strConstsOk v) ∧ ∀ x, x ∈ parts.toList → opndOk x.2)
      (match bparts (placeOf P d) (z.cells.toList.map ofV) (parts.toList.map fun p => (p.1, s.ev p.2)) with
        | some cs => K (.agg cs) s
        | none => False))
  | _, _ => False

theorem mapM_places : ∀ (fs : List Field), (∀ f, f ∈ fs → ∃ i, P.info? f.type = some i) → fs.mapM (fun f => (P.info? f.type).map fun i => (f.offset, i.size)) = some (fs.map fun f => (f.offset, P.cellsOf f.type))
  | [], _ => by simp
  | f :: fs, h => by
    obtain ⟨i, hi⟩ := h f (.head _)
    have ih := mapM_places fs fun g hg => h g (.tail _ hg)
    have hc : P.cellsOf f.type = i.size := by simp [Program.cellsOf, hi]
    simp [List.mapM_cons, hi, ih, hc]

theorem vcBuild_still {t : TypeId} {parts : Array (Nat × Operand)} (ho : o.op = .build t parts) (h : vcBuild P t parts s K) : StillSem P w0 T0 o s K := by
  unfold vcBuild at h
  cases ht : P.underlying t with
  | none => rw [ht] at h; exact h.elim
  | some d =>
    cases hz : zeroOf P t with
    | none => rw [ht, hz] at h; exact h.elim
    | some z =>
      rw [ht, hz] at h
      dsimp only at h
      obtain ⟨hf0, ⟨hzc, hok⟩, h⟩ := h
      have hf := hf0 d ht
      cases hb : bparts (placeOf P d) (z.cells.toList.map ofV) (parts.toList.map fun p => (p.1, s.ev p.2)) with
      | none => rw [hb] at h; exact h.elim
      | some cs =>
        rw [hb] at h
        intro H a w m hm
        have hev : RvT (ctxOf T0 w0.heap.size m s w) ((parts.toList.map fun p => (p.1, s.ev p.2)).map (·.2)) ((parts.toList.map fun p => (p.1, a.eval p.2)).map (·.2)) := by
          have := hm.evs (l := parts.toList.map (·.2)) (fun x hx => by
            obtain ⟨q, hq, rfl⟩ := List.mem_map.1 hx
            exact hok q hq)
          simpa [evs, Function.comp_def] using this
        obtain ⟨vs', h1, h2⟩ := bparts_ok _ _ _ _ _ (zcell_rv (ctxOf T0 w0.heap.size m s w) hzc) hev (by simp) hb
        refine ⟨_, _, h, ?_, .agg _ _ h2⟩
        unfold execOp; rw [ho]
        have hps : (parts.map fun (i, x) => (i, a.eval x)).toList = parts.toList.map fun p => (p.1, a.eval p.2) := by simp
        have h1' : Instr.fill (placeOf P d) z.cells (parts.map fun (i, x) => (i, a.eval x)).toList = some vs'.toArray := by
          rw [hps]; simpa using h1
        have hbuilt : P.built t (parts.map fun (i, x) => (i, a.eval x)).toList = some vs'.toArray := by
          unfold zeroOf at hz
          cases hi : P.info? t with
          | none => rw [hi] at hz; cases hz
          | some it =>
            rw [hi] at hz
            have hz2 : it.zero = some z := hz
            unfold Program.built
            rw [hi, ht]
            cases d with
            | struct fs =>
              simp only [hz2, mapM_places fs.toList hf]
              have he : (fun i => ((fs.toList.map fun f => (f.offset, P.cellsOf f.type)).toArray)[i]?) = placeOf P (.struct fs) := by
                funext i
                simp only [placeOf, List.getElem?_toArray, List.getElem?_map, Array.getElem?_toList]
                cases fs[i]? <;> rfl
              rw [he]; exact h1'
            | array n e =>
              obtain ⟨q, hq⟩ := hf
              have hc : P.cellsOf e = q.size := by simp [Program.cellsOf, hq]
              simp only [hz2, hq]
              have he : (fun i => some (i * q.size, q.size)) = placeOf P (.array n e) := by
                funext i; simp only [placeOf, hc]
              rw [he]; exact h1'
            | _ => exact hf.elim
        have hr := run_build (P := P) w t _ _ hbuilt
        simp [hr]
theorem vcBuild_sound {t : TypeId} {parts : Array (Nat × Operand)} (ho : o.op = .build t parts) (h : vcBuild P t parts s K) : OpSem P w0 T0 o s K := (vcBuild_still ho h).op

end
end Go.Fv

/-
  Slices of strings and rows, indexing, fields, conversions, not, min and max.
-/

namespace Go.Fv
open Go.RowKit
set_option linter.unusedVariables false
set_option linter.unusedSimpArgs false
set_option linter.unnecessarySimpa false

section
variable {P : Program} {w0 : World} {T0 : Nat → Prop} {o : Oper} {s : S} {K : AV → S → Prop}

/-! ### not, minus -/
def vcUn (op : UnOp) (x : Operand) (s : S) (K : AV → S → Prop) : Prop :=
  match s.ev x with
  | .bool b => match op with | .not => K (.bool (!b)) s | _ => False
  | .int k n => match op with | .neg => LetW k (0 - n) (fun n => K (.int k n) s) | _ => False
  | _ => False
theorem vcUn_still {op : UnOp} {t : TypeId} {x : Operand} (ho : o.op = .unOp op t x) (hx : opndOk x) (h : vcUn op x s K) : StillSem P w0 T0 o s K := by
  unfold vcUn at h
  intro H a w m hm
  have rx := hm.ev x hx
  revert h rx
  generalize s.ev x = ax
  generalize hvx : a.eval x = vx
  intro h rx
  cases ax with
  | bool b =>
    cases rx
    cases op <;> try (exact h.elim)
    refine ⟨_, _, h, ?_, .bool _⟩
    unfold execOp; rw [ho]; simp [hvx, Op.unary]
  | int k n =>
    cases rx
    cases op <;> try (exact h.elim)
    refine ⟨_, _, h _ rfl (InK_wrap _ _), ?_, .int _ _ (InK_wrap _ _)⟩
    unfold execOp; rw [ho]; simp [hvx, Op.unary, Op.intArith]
  | _ => exact h.elim
theorem vcUn_sound {op : UnOp} {t : TypeId} {x : Operand} (ho : o.op = .unOp op t x) (hx : opndOk x) (h : vcUn op x s K) : OpSem P w0 T0 o s K := (vcUn_still ho hx h).op

/-! ### conversions -/
def bytesOf (l : List Int) : List UInt8 := l.map fun n => UInt8.ofNat n.toNat
def vcConv (P : Program) (src dst : TypeId) (x : Operand) (s : S) (K : AV → S → Prop) : Prop :=
  match P.underlying src, P.underlying dst with
  | some d1, some d2 => match d2 with
    | .int k => match s.ev x with
      | .int _ n => LetW k n (fun n => K (.int k n) s)
      | _ => False
    | .string => match s.ev x with
      | .str l => K (.str l) s
      | .ro (.ints .u8 l) => match d1 with
        | .slice e => Chk (P.underlying e = some (.int .u8)) (K (.str (bytesOf l)) s)
        | _ => False
      | .own i => match lk s.rows i, d1 with
        | some (.row _ (.ints .u8 l)), .slice e => Chk (P.underlying e = some (.int .u8)) (K (.str (bytesOf l)) s)
        | _, _ => False
      | _ => False
    | _ => False
  | _, _ => False

theorem bytes_str {w : World} {src dst e : TypeId} (hs : P.underlying src = some (.slice e)) (hd : P.underlying dst = some .string) (he : P.underlying e = some (.int .u8)) (l : List Int) (v : Value)
    (hv : (v = .slice none 0 0 ∧ l = []) ∨ ∃ a cap, v = .slice (some a) l.length cap ∧ ∀ j u, (l.map (Value.int .u8))[j]? = some u → w.cell? (a.add j) = some u) :
    (convert src dst v).run P w = .ok (.string ⟨(bytesOf l).toArray⟩) w := by
  rcases hv with ⟨rfl, rfl⟩ | ⟨a, cap, rfl, hc⟩
  · rw [run_convert_bytes_nil w src e hs he 0 0 dst hd]; rfl
  · have hl : (loadCells a l.length).run P w = .ok (l.map (Value.int .u8)).toArray w := by
      have := run_loadCells_list (P := P) w a (l.map (Value.int .u8)) hc
      simpa using this
    rw [run_convert_bytes_string w src dst e _ _ cap hs he hd, run_bytesToString w _ _ cap l hl, foldl_push_bytes]
    simp [ByteArray.empty, ByteArray.emptyWithCapacity, bytesOf]
    rfl

theorem vcConv_still {src dst : TypeId} {x : Operand} (ho : o.op = .convert src dst x) (hx : opndOk x) (h : vcConv P src dst x s K) : StillSem P w0 T0 o s K := by
  unfold vcConv at h
  intro H a w m hm
  have rx := hm.ev x hx
  cases h1 : P.underlying src with
  | none => rw [h1] at h; exact h.elim
  | some d1 =>
    cases h2 : P.underlying dst with
    | none => rw [h1, h2] at h; exact h.elim
    | some d2 =>
      rw [h1, h2] at h
      dsimp only at h
      have fin : ∀ r v, K r s → (convert src dst (a.eval x)).run P w = .ok v w → Rv (ctxOf T0 w0.heap.size m s w) r v → ∃ r v, K r s ∧ (execOp a.eval o).run P w = .ok (.value v) w ∧ Rv (ctxOf T0 w0.heap.size m s w) r v := by
        intro r v hk hr hv
        refine ⟨r, v, hk, ?_, hv⟩
        unfold execOp; rw [ho]; simp [hr]
      revert h rx fin
      generalize s.ev x = ax
      generalize hvx : a.eval x = vx
      intro rx h fin
      cases d2 with
      | int k =>
        cases ax with
        | int k' n =>
          cases rx
          exact fin _ _ (h _ rfl (InK_wrap _ _)) (by simp [convert, run_underlying h1, run_underlying h2, Conv.intToInt]) (.int _ _ (InK_wrap _ _))
        | _ => exact h.elim
      | string =>
        cases ax with
        | str l =>
          have rx' := rx
          cases rx
          exact fin _ _ h (by simp [convert, run_underlying h1, run_underlying h2]) rx'
        | ro r =>
          cases r with
          | ints k l =>
            cases k <;> try (exact h.elim)
            cases d1 with
            | slice e =>
              obtain ⟨he, hk⟩ := h
              cases rx with
              | roNil _ hr =>
                have hl : l = [] := by have := hr.len; simp [RowV.len, RowV.sz] at this; exact List.eq_nil_of_length_eq_zero this.symm
                subst hl
                exact fin _ _ hk (bytes_str h1 h2 he [] _ (.inl ⟨rfl, rfl⟩)) (.str _ (by simp [bytesOf]))
              | ro _ ad len cap cells hr hl hc hmx hs =>
                have hlen : l.length = len := hl
                cases hr with
                | ints _ _ hin =>
                  refine fin _ _ hk (bytes_str h1 h2 he l _ (.inr ⟨ad, cap, by rw [hlen], hs.2.2⟩)) (.str _ (by simp only [bytesOf, List.length_map]; omega))
            | _ => exact h.elim
          | _ => exact h.elim
        | own i =>
          dsimp only at h
          cases hi : lk s.rows i with
          | none => rw [hi] at h; exact h.elim
          | some it =>
            rw [hi] at h
            cases it with
            | box _ _ => exact h.elim
            | row e' r =>
              cases r with
              | ints k l =>
                cases k <;> try (exact h.elim)
                cases d1 with
                | slice e =>
                  obtain ⟨he, hk⟩ := h
                  obtain ⟨n, cells, hr, hn, how⟩ := (hm.rows i _ hi).2
                  cases hr with
                  | ints _ _ hin =>
                    have hn' : l.length = n := hn
                    cases rx with
                    | own _ _ _ =>
                      rcases how.2 with ⟨hv, hz⟩ | ⟨g, cap, cur, hv, _, _, hnc, hcm, _⟩
                      · have hl : l = [] := List.eq_nil_of_length_eq_zero (by omega)
                        subst hl
                        have hv' : (ctxOf T0 w0.heap.size m s w).m i = .slice none 0 0 := hv
                        exact fin _ _ hk (bytes_str h1 h2 he [] _ (.inl ⟨hv', rfl⟩)) (.str _ (by simp [bytesOf]))
                      · have hv' : (ctxOf T0 w0.heap.size m s w).m i = .slice (some ⟨g, 0, none⟩) n cap := hv
                        have hcells := how.cells (g := g) (by rw [hv]; rfl)
                        refine fin _ _ hk (bytes_str h1 h2 he l _ (.inr ⟨⟨g, 0, none⟩, cap, by rw [hv', hn'], hcells⟩)) (.str _ (by simp only [bytesOf, List.length_map]; omega))
                | _ => exact h.elim
              | _ => exact h.elim
        | _ => exact h.elim
      | _ => exact h.elim
theorem vcConv_sound {src dst : TypeId} {x : Operand} (ho : o.op = .convert src dst x) (hx : opndOk x) (h : vcConv P src dst x s K) : OpSem P w0 T0 o s K := (vcConv_still ho hx h).op

/-! ### indexing of strings and of array values; fields of struct values -/
def vcIndex (P : Program) (t : TypeId) (x i : Operand) (s : S) (K : AV → S → Prop) : Prop :=
  match s.ev i with
  | .int _ n => match P.underlying t, s.ev x with
    | some .string, .str l => Chk (0 ≤ n ∧ n < l.length) (K (.int .u8 (l.getD n.toNat 0).toNat) s)
    | some (.array len e), .agg cs => Chk (0 ≤ n ∧ n < len ∧ 0 < P.cellsOf e) (ldCells P e (cs.drop (n.toNat * P.cellsOf e)) (fun v => K v s))
    | _, _ => False
  | _ => False

theorem part_run {w : World} {c : Ctx} {t : TypeId} {cs : List AV} {K : AV → Prop} {vs : List Value} {off : Nat} (h : ldCells P t (cs.drop off) K) (hv : RvL c cs vs) : ∃ r v, K r ∧ (part t vs.toArray off).run P w = .ok v w ∧ Rv c r v := by
  unfold ldCells at h
  have hd := hv.drop off
  cases ht : P.underlying t with
  | none => rw [ht] at h; exact h.elim
  | some d =>
    rw [ht] at h
    obtain ⟨i, hi⟩ := info_of_underlying ht
    cases hdd : aggB d with
    | true =>
      simp only [hdd, cond_true] at h
      obtain ⟨hl, hk⟩ := h
      refine ⟨_, .agg ((vs.drop off).take (P.cellsOf t)).toArray, hk, ?_, .agg _ _ (hd.take (P.cellsOf t))⟩
      have hs := sizeOf_run (P := P) hi w
      simp [part, isAgg_run ht, hdd, hs, Sem.run_bind, Result.andThen, List.extract_eq_take_drop]
    | false =>
      simp only [hdd, cond_false] at h
      cases hc : cs.drop off with
      | nil => rw [hc] at h; exact h.elim
      | cons x l =>
        rw [hc] at h hd
        generalize hq : vs.drop off = dv at hd
        cases hd with
        | cons _ v _ us hx h1 ht' =>
          have hcell : vs[off]? = some v := by
            have : (vs.drop off)[0]? = some v := by rw [hq]; rfl
            rw [List.getElem?_drop] at this; simpa using this
          refine ⟨x, v, ?_, ?_, hx⟩
          · cases hx with
            | int k n hk => exact h hk
            | _ => exact h
          · simp [part, isAgg_run ht, hdd, hcell, Sem.run_bind, Result.andThen]

theorem vcIndex_still {t : TypeId} {x i : Operand} (ho : o.op = .index t x i) (hx : opndOk x) (hi : opndOk i) (h : vcIndex P t x i s K) : StillSem P w0 T0 o s K := by
  unfold vcIndex at h
  intro H a w m hm
  have rx := hm.ev x hx
  have ri := hm.ev i hi
  revert h rx ri
  generalize s.ev x = ax
  generalize hvx : a.eval x = vx
  generalize s.ev i = ai
  generalize hvi : a.eval i = vi
  intro h rx ri
  cases ai with
  | int k n =>
    cases ri
    dsimp only at h
    cases ht : P.underlying t with
    | none => rw [ht] at h; exact h.elim
    | some d =>
      rw [ht] at h
      cases d with
      | string =>
        cases ax with
        | str l =>
          obtain ⟨⟨h0, h1⟩, hk⟩ := h
          cases rx with
          | str _ hl =>
            have hlt : n.toNat < l.length := by omega
            have hsz : (ByteArray.mk l.toArray).size = l.length := by show l.toArray.size = _; simp
            have hb : (l.getD n.toNat 0).toNat < 256 := UInt8.toNat_lt _
            refine ⟨_, _, hk, ?_, .int .u8 _ (InK_u8.2 ⟨by omega, by omega⟩)⟩
            have hr := run_index_string (P := P) w t ⟨l.toArray⟩ k n ht
            rw [dif_pos ⟨h0, by rw [hsz]; exact h1⟩] at hr
            have e : ((ByteArray.mk l.toArray)[n.toNat]'(by rw [hsz]; exact hlt)) = l.getD n.toNat 0 := by
              show (l.toArray)[n.toNat]'(by simpa using hlt) = _
              simp [List.getD, hlt]
            rw [e] at hr
            unfold execOp; rw [ho]; simp [hvx, hvi, hr]
        | _ => exact h.elim
      | array len e =>
        cases ax with
        | agg cs =>
          obtain ⟨⟨h0, h1, hp⟩, h⟩ := h
          cases rx with
          | agg _ vs hl =>
            obtain ⟨r, v, hk, hr, hv⟩ := part_run (w := w) h hl
            refine ⟨r, v, hk, ?_, hv⟩
            obtain ⟨q, hq⟩ := info_of_cells hp
            have hs := sizeOf_run (P := P) hq w
            unfold execOp; rw [ho]; simp [hvx, hvi, Instr.index, asIntOf, run_underlying ht, h0, h1, hs, hr]
        | _ => exact h.elim
      | _ => cases ax <;> exact h.elim
  | _ => exact h.elim
theorem vcIndex_sound {t : TypeId} {x i : Operand} (ho : o.op = .index t x i) (hx : opndOk x) (hi : opndOk i) (h : vcIndex P t x i s K) : OpSem P w0 T0 o s K := (vcIndex_still ho hx hi h).op

def vcField (P : Program) (t : TypeId) (x : Operand) (k : Nat) (s : S) (K : AV → S → Prop) : Prop :=
  match P.underlying t, s.ev x with
  | some (.struct fs), .agg cs => match fs[k]? with
    | some f => ldCells P f.type (cs.drop f.offset) (fun v => K v s)
    | none => False
  | _, _ => False
theorem vcField_still {t : TypeId} {x : Operand} {k : Nat} (ho : o.op = .field t x k) (hx : opndOk x) (h : vcField P t x k s K) : StillSem P w0 T0 o s K := by
  unfold vcField at h
  intro H a w m hm
  have rx := hm.ev x hx
  revert h rx
  generalize s.ev x = ax
  generalize hvx : a.eval x = vx
  intro h rx
  cases ht : P.underlying t with
  | none => rw [ht] at h; exact h.elim
  | some d =>
    rw [ht] at h
    cases d with
    | struct fs =>
      cases ax with
      | agg cs =>
        dsimp only at h
        cases hf : fs[k]? with
        | none => rw [hf] at h; exact h.elim
        | some f =>
          rw [hf] at h
          cases rx with
          | agg _ vs hl =>
            obtain ⟨r, v, hk, hr, hv⟩ := part_run (w := w) h hl
            refine ⟨r, v, hk, ?_, hv⟩
            unfold execOp; rw [ho]; simp [hvx, Instr.field, run_underlying ht, hf, asAgg, hr]
      | _ => exact h.elim
    | _ => exact h.elim
theorem vcField_sound {t : TypeId} {x : Operand} {k : Nat} (ho : o.op = .field t x k) (hx : opndOk x) (h : vcField P t x k s K) : OpSem P w0 T0 o s K := (vcField_still ho hx h).op

/-! ### min, max -/
def minmax (isMax : Bool) (a b : Int) : Int := if isMax then max a b else min a b
def vcMM (isMax : Bool) (xs : List AV) (K : AV → Prop) : Prop :=
  match xs with
  | [.int k a, .int k' b] => Chk (k = k') (K (.int k (if isMax then max a b else min a b)))
  | [.int k a, .int k' b, .int k'' c] => Chk (k = k' ∧ k = k'') (K (.int k (if isMax then max (max a b) c else min (min a b) c)))
  | _ => False

theorem min_ite (a b : Int) : (if b < a then b else a) = min a b := by
  by_cases h : b < a
  · rw [if_pos h]; omega
  · rw [if_neg h]; omega
theorem max_ite (a b : Int) : (if b > a then b else a) = max a b := by
  by_cases h : b > a
  · rw [if_pos h]; omega
  · rw [if_neg h]; omega
theorem InK_min {k : IntKind} {a b : Int} (ha : InK k a) (hb : InK k b) : InK k (min a b) := by
  unfold InK at *; omega
theorem InK_max {k : IntKind} {a b : Int} (ha : InK k a) (hb : InK k b) : InK k (max a b) := by
  unfold InK at *; omega

theorem vcMM_still {isMax : Bool} {args : Array Operand} {ats : Array TypeId} (ho : o.op = .call { callee := .builtin (if isMax then .max else .min), args := args, argTypes := ats }) (hx : ∀ x, x ∈ args.toList → opndOk x)
    (h : vcMM isMax (evs s args.toList) (fun r => K r s)) : StillSem P w0 T0 o s K := by
  intro H a w m hm
  have hev := hm.evs hx
  have hrun : ∀ v : Value, (if isMax then Builtin.max_ ats o.type (args.map a.eval) else Builtin.min_ ats o.type (args.map a.eval)).run P w = .ok v w → (execOp a.eval o).run P w = .ok (.value v) w := by
    intro v hv
    unfold execOp; rw [ho]
    cases isMax with
    | true => simp at hv; simp [resolve, invoke, builtin, hv]
    | false => simp at hv; simp [resolve, invoke, builtin, hv]
  have hargs : (args.map a.eval).toList = args.toList.map a.eval := by simp
  unfold vcMM at h
  revert h hev
  generalize evs s args.toList = ax
  rw [← hargs]
  generalize args.map a.eval = vx at *
  intro h hev
  split at h
  · rename_i k p k' q
    obtain ⟨rfl, h⟩ := h
    cases vx with
    | mk l =>
    cases hev with
    | cons _ _ _ _ h1 t =>
      cases t with
      | cons _ _ _ _ h2 t =>
        cases t
        cases h1 with
        | int _ _ i1 =>
        cases h2 with
        | int _ _ i2 =>
        refine ⟨_, _, h, hrun _ ?_, .int _ _ ?_⟩
        · cases isMax <;> simp [Builtin.max_, Builtin.min_, Builtin.max2, Builtin.min2, min_ite, ← max_ite]
        · cases isMax
          · exact InK_min i1 i2
          · exact InK_max i1 i2
  · rename_i k p k' q k'' c
    obtain ⟨⟨rfl, rfl⟩, h⟩ := h
    cases vx with
    | mk l =>
    cases hev with
    | cons _ _ _ _ h1 t =>
      cases t with
      | cons _ _ _ _ h2 t =>
        cases t with
        | cons _ _ _ _ h3 t =>
          cases t
          cases h1 with
          | int _ _ i1 =>
          cases h2 with
          | int _ _ i2 =>
          cases h3 with
          | int _ _ i3 =>
          refine ⟨_, _, h, hrun _ ?_, .int _ _ ?_⟩
          · cases isMax <;> simp [Builtin.max_, Builtin.min_, Builtin.max2, Builtin.min2, min_ite, ← max_ite]
          · cases isMax
            · exact InK_min (InK_min i1 i2) i3
            · exact InK_max (InK_max i1 i2) i3
  · exact h.elim
theorem vcMM_sound {isMax : Bool} {args : Array Operand} {ats : Array TypeId} (ho : o.op = .call { callee := .builtin (if isMax then .max else .min), args := args, argTypes := ats }) (hx : ∀ x, x ∈ args.toList → opndOk x)
    (h : vcMM isMax (evs s args.toList) (fun r => K r s)) : OpSem P w0 T0 o s K := (vcMM_still ho hx h).op

/-! ### slices -/
def bnd (s : S) (x : Option Operand) (d : Int) : Option Int :=
  match x with
  | none => some d
  | some y => match s.ev y with
    | .int _ n => some n
    | _ => none
def bndOk (x : Option Operand) : Prop := match x with | none => True | some y => opndOk y

def vcSlice (P : Program) (t : TypeId) (x : Operand) (lo hi mx : Option Operand) (s : S) (K : AV → S → Prop) : Prop :=
  Chk (mx = none ∧ bndOk lo ∧ bndOk hi) (match P.underlying t, s.ev x with
  | some .string, .str l => match bnd s lo 0, bnd s hi l.length with
    | some p, some q => Chk (0 ≤ p ∧ p ≤ q ∧ q ≤ l.length) (K (.str ((l.drop p.toNat).take (q.toNat - p.toNat))) s)
    | _, _ => False
  | some (.slice e), .ro r => match bnd s lo 0, bnd s hi r.len with
    | some p, some q => Chk (P.cellsOf e = r.sz) (Chk (0 ≤ p ∧ p ≤ q ∧ q ≤ r.len) (K (.ro (subRow r p.toNat q.toNat)) s))
    | _, _ => False
  | some (.slice e), .own i => match lk s.rows i with
    | some (.row e' r) => match lo with
      | none => match bnd s hi r.len with
        | some q => Chk (P.cellsOf e = r.sz) (Chk (0 ≤ q ∧ q ≤ r.len) (K (.own s.next) (s.swap i (.row e' (subRow r 0 q.toNat)))))
        | none => False
      | some y => match bnd s (some y) 0, bnd s hi r.len with
        | some p, some q => Chk (P.cellsOf e = r.sz) (Chk (0 ≤ p ∧ p ≤ q ∧ q ≤ r.len) (K (.ro (subRow r p.toNat q.toNat)) { s with rows := del s.rows i }))
        | _, _ => False
    | _ => False
  | _, _ => False)

theorem bnd_run {H : List (AV × Value)} {a : Act} {w : World} {m : Nat → Value} (hm : RepM w0 T0 H s a w m) {x : Option Operand} (hx : bndOk x) {d p : Int} (h : bnd s x d = some p) :
    (x = none ∧ p = d) ∨ ∃ k, x.map a.eval = some (.int k p) := by
  cases x with
  | none => simp only [bnd] at h; cases h; exact .inl ⟨rfl, rfl⟩
  | some y =>
    simp only [bnd] at h
    have ry := hm.ev y hx
    cases hy : s.ev y <;> rw [hy] at h ry <;> simp only at h <;> cases h
    generalize hv : a.eval y = vy at ry
    cases ry
    exact .inr ⟨_, by rw [Option.map_some, hv]⟩

theorem bounds_run {w : World} (isSlice : Bool) (len cap : Nat) (lo hi : Option Value) (p q : Int) (hp : (lo = none ∧ p = 0) ∨ ∃ k, lo = some (.int k p)) (hq : (hi = none ∧ q = len) ∨ ∃ k, hi = some (.int k q))
    (h0 : 0 ≤ p) (h1 : p ≤ q) (h2 : q ≤ len) (hc : len ≤ cap) : (Instr.sliceBounds isSlice len cap lo hi none).run P w = .ok (p.toNat, q.toNat, cap) w := by
  have hq0 : 0 ≤ q := by omega
  have hqc : q ≤ (cap : Int) := by omega
  have hqq : ((q.toNat : Nat) : Int) = q := by omega
  rcases hp with ⟨rfl, rfl⟩ | ⟨k, rfl⟩ <;> rcases hq with ⟨rfl, rfl⟩ | ⟨k', rfl⟩
  · simp [Instr.sliceBounds]
  · simp [Instr.sliceBounds, run_sliceBound, hq0, hqc]
  · have h1' : p ≤ ((len : Nat) : Int) := h1
    simp [Instr.sliceBounds, run_sliceBound, h0, h1']
  · have h1' : p ≤ ((q.toNat : Nat) : Int) := by omega
    have e2 := run_sliceBound (P := P) w k p q.toNat .sliceB h0 h1'
    simp [Instr.sliceBounds, run_sliceBound, hq0, hqc, e2]

theorem vcSlice_sound {t : TypeId} {x : Operand} {lo hi mx : Option Operand} (ho : o.op = .slice t x lo hi mx) (hx : opndOk x) (h : vcSlice P t x lo hi mx s K) : OpSem P w0 T0 o s K := by
  unfold vcSlice at h
  obtain ⟨⟨rfl, hlo, hhi⟩, h⟩ := h
  refine OpSem.mem fun H a w m hm => ?_
  have rx := hm.ev x hx
  cases ht : P.underlying t with
  | none => rw [ht] at h; exact h.elim
  | some d =>
    rw [ht] at h
    have fin : ∀ r v s' m', K r s' → (Instr.sliceAt t (a.eval x) (lo.map a.eval) (hi.map a.eval) none).run P w = .ok v w → RepM w0 T0 ((r, v) :: H) s' a w m' →
        ∃ r v s' w' m', K r s' ∧ ((execOp a.eval o).run P w = .ok (.value v) w' ∨ ((execOp a.eval o).run P w = .ok .skip w' ∧ v = undef)) ∧ RepM w0 T0 ((r, v) :: H) s' a w' m' := by
      intro r v s' m' hk hr hv
      refine ⟨r, v, s', w, m', hk, .inl ?_, hv⟩
      unfold execOp; rw [ho]; simp [hr]
    have hbnd : ∀ (y : Option Operand) (d p : Int), bndOk y → bnd s y d = some p → (y.map a.eval = none ∧ p = d) ∨ ∃ k, y.map a.eval = some (.int k p) := by
      intro y d p hy hb
      rcases bnd_run hm hy hb with ⟨rfl, rfl⟩ | h
      · exact .inl ⟨rfl, rfl⟩
      · exact .inr h
    cases d with
    | string =>
      revert h rx
      generalize s.ev x = ax
      generalize a.eval x = vx at *
      intro rx h
      cases ax with
      | str l =>
        dsimp only at h
        cases hp : bnd s lo 0 with
        | none => rw [hp] at h; exact h.elim
        | some p =>
          cases hq : bnd s hi l.length with
          | none => rw [hp, hq] at h; exact h.elim
          | some q =>
            rw [hp, hq] at h
            obtain ⟨⟨h0, h1, h2⟩, hk⟩ := h
            cases rx with
            | str _ hl =>
              have hsz : (ByteArray.mk l.toArray).size = l.length := by show l.toArray.size = _; simp
              have hb := bounds_run (P := P) (w := w) false l.length l.length (lo.map a.eval) (hi.map a.eval) p q (hbnd lo 0 p hlo hp) (hbnd hi _ q hhi hq) h0 h1 h2 (Nat.le_refl _)
              refine fin _ (.string ⟨((l.drop p.toNat).take (q.toNat - p.toNat)).toArray⟩) s m hk ?_ (hm.hold (.str _ ?_))
              · rw [run_sliceAt_string (P := P) w t _ _ _ _ ht]
                simp [Instr.slice, run_underlying ht, hsz, hb, ByteArray.extract_mk]
              · have hlm : l.length ≤ maxLen := hl
                simp only [List.length_take, List.length_drop]; omega
      | _ => exact h.elim
    | slice e =>
      cases hax : s.ev x with
      | ro r =>
        rw [hax] at h rx
        generalize hvx : a.eval x = vx at *
        dsimp only at h
        cases hp : bnd s lo 0 with
        | none => rw [hp] at h; exact h.elim
        | some p =>
          cases hq : bnd s hi r.len with
          | none => rw [hp, hq] at h; exact h.elim
          | some q =>
            rw [hp, hq] at h
            obtain ⟨hce, ⟨h0, h1, h2⟩, hk⟩ := h
            cases rx with
            | roNil _ hr =>
              have hz : r.len = 0 := by
                have h1 := hr.len; have h2 := hr.pos; simp at h1
                rcases Nat.mul_eq_zero.1 (by omega : r.len * r.sz = 0) with e | e <;> omega
              obtain ⟨i, hi'⟩ := info_of_cells (P := P) (t := e) (by rw [hce]; exact hr.pos)
              have hs := sizeOf_run (P := P) hi' w
              have hb := bounds_run (P := P) (w := w) true 0 0 (lo.map a.eval) (hi.map a.eval) p q (hbnd lo 0 p hlo hp) (by have := hbnd hi _ q hhi hq; rw [hz] at this; exact this) h0 h1 (by omega) (Nat.le_refl _)
              have hp0 : p.toNat = 0 := by omega
              have hq0 : q.toNat = 0 := by omega
              refine fin _ (.slice none 0 0) s m hk ?_ (hm.hold (.roNil _ ?_))
              · have hsl : (Instr.sliceAt t (.slice none 0 0) (lo.map a.eval) (hi.map a.eval) none).run P w = (Instr.slice t (.slice none 0 0) (lo.map a.eval) (hi.map a.eval) none).run P w := by simp [Instr.sliceAt, run_underlying ht]
                rw [hsl]
                simp [Instr.slice, run_underlying ht, hb, hp0, hq0, hs]
              · have := hr.sub p.toNat q.toNat
                simpa using this
            | ro _ ad len cap cells hr hl hc hmx hs' =>
              obtain ⟨i, hi'⟩ := info_of_cells (P := P) (t := e) (by rw [hce]; exact hr.pos)
              have hs := sizeOf_run (P := P) hi' w
              have hb := bounds_run (P := P) (w := w) true len cap (lo.map a.eval) (hi.map a.eval) p q (hbnd lo 0 p hlo hp) (by have := hbnd hi _ q hhi hq; rw [hl] at this; exact this) h0 h1 (by omega) hc
              have hsub := hr.sub p.toNat q.toNat
              have hsl : (Instr.sliceAt t (.slice (some ad) len cap) (lo.map a.eval) (hi.map a.eval) none).run P w = (Instr.slice t (.slice (some ad) len cap) (lo.map a.eval) (hi.map a.eval) none).run P w := by simp [Instr.sliceAt, run_underlying ht]
              refine fin _ (.slice (if cap = p.toNat then some ad else some (ad.add (p.toNat * P.cellsOf e))) (q.toNat - p.toNat) (cap - p.toNat)) s m hk ?_ (hm.hold ?_)
              · rw [hsl]
                simp [Instr.slice, run_underlying ht, hb, hs]
              · have hlen : (subRow r p.toNat q.toNat).len = q.toNat - p.toNat := subRow_len _ _ _ (by omega)
                split
                · rename_i e1
                  have hz : (q.toNat - p.toNat) = 0 := by omega
                  have hnil : (List.take ((q.toNat - p.toNat) * r.sz) (List.drop (p.toNat * r.sz) cells)) = [] := by rw [hz]; simp
                  rw [hnil] at hsub
                  exact .ro _ ad _ _ [] hsub hlen (by omega) (by omega) ⟨hs'.1, fun h => absurd rfl h, fun j u hu => by simp at hu⟩
                · refine .ro _ _ _ _ _ hsub hlen (by omega) (by omega) ?_
                  rw [hce]
                  exact (hs'.drop _).take _
      | own j =>
        rw [hax] at h rx
        generalize hvx : a.eval x = vx at *
        dsimp only at h
        cases hj : lk s.rows j with
        | none => rw [hj] at h; exact h.elim
        | some it =>
          rw [hj] at h
          cases it with
          | box _ _ => exact h.elim
          | row e' r =>
            dsimp only at h
            obtain ⟨n, cells, hr, hn, how⟩ := (hm.rows j _ hj).2
            cases lo with
            | none =>
              dsimp only at h
              cases hq : bnd s hi r.len with
              | none => rw [hq] at h; exact h.elim
              | some q =>
                rw [hq] at h
                obtain ⟨hce, ⟨h0, h2⟩, hk⟩ := h
                obtain ⟨i, hi'⟩ := info_of_cells (P := P) (t := e) (by rw [hce]; exact hr.pos)
                have hs := sizeOf_run (P := P) hi' w
                have hsub := hr.sub 0 q.toNat
                simp only [Nat.zero_mul, List.drop_zero, Nat.sub_zero] at hsub
                have hlen : (subRow r 0 q.toNat).len = q.toNat := by rw [subRow_len _ _ _ (by omega)]; omega
                have hsz2 : (subRow r 0 q.toNat).sz = r.sz := by cases r <;> rfl
                cases rx with
                | own _ _ h1 =>
                  rcases how.2 with ⟨hv, hz⟩ | ⟨g, cap, cur, hv, hge, hh, hnc, hcm, hcs, htake⟩
                  · have hv' : (ctxOf T0 w0.heap.size m s w).m j = .slice none 0 0 := hv
                    have hb := bounds_run (P := P) (w := w) true 0 0 none (hi.map a.eval) 0 q (.inl ⟨rfl, rfl⟩) (by have := hbnd hi _ q hhi hq; rw [hn, hz] at this; exact this) (Int.le_refl _) h0 (by omega) (Nat.le_refl _)
                    have hq0 : q.toNat = 0 := by omega
                    have hrep := hm.repl (w' := w) hm.below hj (fun _ _ _ => rfl) (.row e' (subRow r 0 q.toNat)) (.slice none 0 0) (fun b hb => by cases hb) (fun c hle hw => by
                      refine ⟨0, [], ?_, by rw [hlen, hq0], by rw [hw]; exact World.ownsRow_nil _ _ _ _⟩
                      have := hsub.mono hle; rw [hq0] at this; simpa [hq0] using this)
                    refine fin _ (.slice none 0 0) _ _ hk ?_ (hold_own hrep rfl)
                    have hsl : (Instr.sliceAt t (.slice none 0 0) none (hi.map a.eval) none).run P w = (Instr.slice t (.slice none 0 0) none (hi.map a.eval) none).run P w := by simp [Instr.sliceAt, run_underlying ht]
                    rw [hv']
                    show (Instr.sliceAt t (.slice none 0 0) none (hi.map a.eval) none).run P w = _
                    rw [hsl]
                    simp [Instr.slice, run_underlying ht, hb, hq0, hs]
                  · have hv' : (ctxOf T0 w0.heap.size m s w).m j = .slice (some ⟨g, 0, none⟩) n cap := hv
                    have hb := bounds_run (P := P) (w := w) true n cap none (hi.map a.eval) 0 q (.inl ⟨rfl, rfl⟩) (by have := hbnd hi _ q hhi hq; rw [hn] at this; exact this) (Int.le_refl _) h0 (by omega) hnc
                    have hrep := hm.repl (w' := w) hm.below hj (fun _ _ _ => rfl) (.row e' (subRow r 0 q.toNat)) (.slice (some ⟨g, 0, none⟩) q.toNat cap) (fun b hb _ => by rw [hv]; exact hb) (fun c hle hw => by
                      refine ⟨q.toNat, _, hsub.mono hle, hlen, ?_⟩
                      rw [hw, hsz2]
                      have hcl := how.1
                      have hqn : q.toNat * r.sz ≤ n * r.sz := Nat.mul_le_mul_right _ (by omega)
                      refine ⟨by rw [List.length_take, hcl]; omega, .inr ⟨g, cap, cur, rfl, hge, hh, by omega, hcm, hcs, ?_⟩⟩
                      rw [← htake, List.take_take, Nat.min_eq_left hqn])
                    refine fin _ (.slice (some ⟨g, 0, none⟩) q.toNat cap) _ _ hk ?_ (hold_own hrep rfl)
                    have hsl : (Instr.sliceAt t (.slice (some ⟨g, 0, none⟩) n cap) none (hi.map a.eval) none).run P w = (Instr.slice t (.slice (some ⟨g, 0, none⟩) n cap) none (hi.map a.eval) none).run P w := by simp [Instr.sliceAt, run_underlying ht]
                    rw [hv']
                    show (Instr.sliceAt t (.slice (some ⟨g, 0, none⟩) n cap) none (hi.map a.eval) none).run P w = _
                    rw [hsl]
                    simp only [Int.toNat_zero] at hb
                    simp [Instr.slice, run_underlying ht, hb, hs, Addr.add]
            | some y =>
              dsimp only at h
              cases hp : bnd s (some y) 0 with
              | none => rw [hp] at h; exact h.elim
              | some p =>
                cases hq : bnd s hi r.len with
                | none => rw [hp, hq] at h; exact h.elim
                | some q =>
                  rw [hp, hq] at h
                  obtain ⟨hce, ⟨h0, h1', h2⟩, hk⟩ := h
                  obtain ⟨i, hi'⟩ := info_of_cells (P := P) (t := e) (by rw [hce]; exact hr.pos)
                  have hs := sizeOf_run (P := P) hi' w
                  have hlen : (subRow r p.toNat q.toNat).len = q.toNat - p.toNat := subRow_len _ _ _ (by omega)
                  have hro := own_ro hm hj (del_sub s.rows j) (by rw [lk_del, if_pos rfl])
                  have hm1 : RepM w0 T0 H { s with rows := del s.rows j } a w m := hm.forget _ (del_sub _ _)
                  generalize hmj : m j = mj at hro
                  cases rx with
                  | own _ _ h1 =>
                    have hv' : (ctxOf T0 w0.heap.size m s w).m j = mj := hmj
                    rw [hv'] at fin
                    cases hro with
                    | roNil _ hr' =>
                      have hz : r.len = 0 := by
                        have h1 := hr'.len; have h2 := hr'.pos; simp at h1
                        rcases Nat.mul_eq_zero.1 (by omega : r.len * r.sz = 0) with e | e <;> omega
                      have hb := bounds_run (P := P) (w := w) true 0 0 ((some y).map a.eval) (hi.map a.eval) p q (hbnd (some y) 0 p hlo hp) (by have := hbnd hi _ q hhi hq; rw [hz] at this; exact this) h0 h1' (by omega) (Nat.le_refl _)
                      have hp0 : p.toNat = 0 := by omega
                      have hq0 : q.toNat = 0 := by omega
                      refine fin _ (.slice none 0 0) _ m hk ?_ (hm1.hold (.roNil _ ?_))
                      · have hsl : (Instr.sliceAt t (.slice none 0 0) ((some y).map a.eval) (hi.map a.eval) none).run P w = (Instr.slice t (.slice none 0 0) ((some y).map a.eval) (hi.map a.eval) none).run P w := by simp [Instr.sliceAt, run_underlying ht]
                        rw [hsl]
                        simp only [Option.map_some] at hb
                        simp [Instr.slice, run_underlying ht, hb, hp0, hq0, hs]
                      · have := hr'.sub p.toNat q.toNat
                        simpa using this
                    | ro _ ad len cap cells' hr' hl hc hmx hs' =>
                      have hb := bounds_run (P := P) (w := w) true len cap ((some y).map a.eval) (hi.map a.eval) p q (hbnd (some y) 0 p hlo hp) (by have := hbnd hi _ q hhi hq; rw [hl] at this; exact this) h0 h1' (by omega) hc
                      have hsub := hr'.sub p.toNat q.toNat
                      have hsl : (Instr.sliceAt t (.slice (some ad) len cap) ((some y).map a.eval) (hi.map a.eval) none).run P w = (Instr.slice t (.slice (some ad) len cap) ((some y).map a.eval) (hi.map a.eval) none).run P w := by simp [Instr.sliceAt, run_underlying ht]
                      refine fin _ (.slice (if cap = p.toNat then some ad else some (ad.add (p.toNat * P.cellsOf e))) (q.toNat - p.toNat) (cap - p.toNat)) _ m hk ?_ (hm1.hold ?_)
                      · rw [hsl]
                        simp only [Option.map_some] at hb
                        simp [Instr.slice, run_underlying ht, hb, hs]
                      · split
                        · rename_i e1
                          have hz : (q.toNat - p.toNat) = 0 := by omega
                          have hnil : (List.take ((q.toNat - p.toNat) * r.sz) (List.drop (p.toNat * r.sz) cells')) = [] := by rw [hz]; simp
                          rw [hnil] at hsub
                          exact .ro _ ad _ _ [] hsub hlen (by omega) (by omega) ⟨hs'.1, fun h => absurd rfl h, fun j u hu => by simp at hu⟩
                        · refine .ro _ _ _ _ _ hsub hlen (by omega) (by omega) ?_
                          rw [hce]
                          exact (hs'.drop _).take _
      | _ => rw [hax] at h; exact h.elim
    | _ => cases s.ev x <;> exact h.elim
end
end Go.Fv
