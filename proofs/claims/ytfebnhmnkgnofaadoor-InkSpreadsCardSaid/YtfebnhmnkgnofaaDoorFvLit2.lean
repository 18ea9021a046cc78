/-
  Literals of slices, structs, arrays.
-/
import Derived.Test.YtfebnhmnkgnofaaDoorFvLit
namespace Go.Fv
open Go.RowKit
set_option linter.unusedVariables false
set_option linter.unusedSimpArgs false
set_option linter.unnecessarySimpa false

theorem splV_foldl (off : Nat) : ∀ (l : List Value) (k : Nat) (cs : Array Value), (l.zipIdx k).foldl (fun cs (p : Value × Nat) => cs.setIfInBounds (off + p.2) p.1) cs = (splV cs.toList (off + k) l).toArray
  | [], k, cs => by simp [splV]
  | c :: l, k, cs => by
    rw [List.zipIdx_cons, List.foldl_cons, splV_foldl off l (k + 1) _, splV]
    simp [Nat.add_assoc]
theorem fill_step (place : Nat → Option (Nat × Nat)) (cells : Array Value) (i : Nat) (v : Value) (rest : List (Nat × Value)) (off size : Nat) (hp : place i = some (off, size)) (h1 : v.cells.size = size) (h2 : off + v.cells.size ≤ cells.size) :
    Instr.fill place cells ((i, v) :: rest) = Instr.fill place (splV cells.toList off v.cells.toList).toArray rest := by
  simp only [Instr.fill, hp]
  rw [if_neg (by simp; omega)]
  congr 1
  have := splV_foldl off v.cells.toList 0 cells
  rw [Nat.add_zero] at this
  rw [← this, ← Array.foldl_toList, Array.toList_zipIdx]

def idxFrom : Nat → List (Nat × Operand) → Prop
  | _, [] => True
  | k, (i, _) :: l => i = k ∧ idxFrom (k + 1) l

section
variable {P : Program} {w0 : World} {T0 : Nat → Prop} {o : Oper} {s : S} {K : AV → S → Prop}

theorem frzT_rv {H : List (AV × Value)} {a : Act} {w : World} {m : Nat → Value} {n : Nat} {env : List (Nat × AV)} {next : Nat} : ∀ (x : List AV) (rows : List (Nat × Item)) (v : List Value), RepM w0 T0 H ⟨n, env, rows, next⟩ a w m → RvT (ctxOf T0 w0.heap.size m ⟨n, env, rows, next⟩ w) x v →
    RvT (ctxOf T0 w0.heap.size m ⟨n, env, (frzL rows x).2, next⟩ w) (frzL rows x).1 v
  | [], rows, v, hm, hx => by cases hx; exact .nil
  | x :: l, rows, v, hm, hx => by
    cases hx with
    | cons _ u _ us h t =>
      simp only [frzL]
      have hm1 : RepM w0 T0 H ⟨n, env, (frz rows x).2, next⟩ a w m := hm.forget (frz rows x).2 (frz_sub x rows)
      have hle : CtxLe (ctxOf T0 w0.heap.size m ⟨n, env, rows, next⟩ w) (ctxOf T0 w0.heap.size m ⟨n, env, (frz rows x).2, next⟩ w) := CtxLe.forget (s := ⟨n, env, rows, next⟩) (frz_sub x rows)
      have hle2 : CtxLe (ctxOf T0 w0.heap.size m ⟨n, env, (frz rows x).2, next⟩ w) (ctxOf T0 w0.heap.size m ⟨n, env, (frzL (frz rows x).2 l).2, next⟩ w) := CtxLe.forget (s := ⟨n, env, (frz rows x).2, next⟩) (frzL_sub l _)
      exact .cons _ _ _ _ ((frz_rv x rows u hm h).mono hle2) (frzT_rv l _ us hm1 (t.mono hle))

/-- A literal's elements, one behind the other. -/
theorem fill_elems {c : Ctx} (size : Nat) : ∀ (vals : List AV) (us : List Value) (ops : List (Nat × Value)) (k : Nat) (r r' : RowV) (pre suf : List Value), RowC c r pre → r.sz = size → r.len = k → RvT c vals us → addElems r vals = some r' → suf.length = vals.length * size →
    (ops.map (·.2) = us ∧ ops.map (·.1) = List.range' k us.length) →
    ∃ cells, Instr.fill (fun i => some (i * size, size)) (pre ++ suf).toArray ops = some cells.toArray ∧ RowC c r' cells ∧ r'.len = k + vals.length ∧ r'.sz = size
  | [], us, ops, k, r, r', pre, suf, hr, hs, hk, hv, ha, hl, ho => by
    cases hv
    have : ops = [] := by simpa using ho.1
    subst this
    simp only [addElems] at ha; cases ha
    have : suf = [] := List.eq_nil_of_length_eq_zero (by simpa using hl)
    subst this
    exact ⟨pre, by simp [Instr.fill], hr, by simpa using hk, hs⟩
  | x :: vals, us, ops, k, r, r', pre, suf, hr, hs, hk, hv, ha, hl, ho => by
    cases hv with
    | cons _ u _ us' hx ht =>
      cases ops with
      | nil => simp at ho
      | cons q ops =>
        obtain ⟨i, u2⟩ := q
        simp only [List.map_cons, List.cons.injEq, List.length_cons, List.range'_succ] at ho
        obtain ⟨⟨rfl, ho1⟩, rfl, ho2⟩ := ho
        simp only [addElems] at ha
        cases h1 : addElem r x with
        | none => rw [h1] at ha; cases ha
        | some r1 =>
          rw [h1] at ha
          obtain ⟨g1, g2, g3, g4, g5⟩ := addElem_ok hr hx h1
          have hpl : pre.length = i * size := by rw [hr.len, hs, hk]
          have hsl : size ≤ suf.length := by rw [hl, List.length_cons, Nat.succ_mul]; omega
          rw [fill_step _ _ i u2 ops (i * size) size rfl (by rw [g4, hs]) (by simp; omega)]
          have e1 : splV (pre ++ suf).toArray.toList (i * size) u2.cells.toList = (pre ++ u2.cells.toList) ++ suf.drop size := by
            show splV (pre ++ suf) (i * size) u2.cells.toList = _
            have := splV_right u2.cells.toList pre suf 0
            rw [Nat.add_zero, hpl] at this
            rw [this, splV_eq _ _ _ (by simp; omega)]
            simp [g4, hs]
          rw [e1]
          obtain ⟨cells, f1, f2, f3, f4⟩ := fill_elems size vals us' ops (i + 1) r1 r' (pre ++ u2.cells.toList) (suf.drop size) g1 (by rw [g3, hs]) (by rw [g2, hk]) ht ha (by rw [List.length_drop, hl, List.length_cons, Nat.succ_mul]; omega) ⟨ho1, ho2⟩
          exact ⟨cells, f1, f2, by rw [f3]; simp; omega, f4⟩

def vcBuildSlice (P : Program) (t : TypeId) (len : Nat) (parts : Array (Nat × Operand)) (s : S) (K : AV → S → Prop) : Prop :=
  match P.underlying t with
  | some (.slice e) => match zeroOf P e with
    | some z => Chk (ElemZ P e z) (Chk (parts.toList.length = len ∧ idxFrom 0 parts.toList ∧ (∀ x, x ∈ parts.toList → opndOk x.2) ∧ len * z.cells.size ≤ 16777216)
        (match addElems (zrow z 0) (frzL s.rows (evs s (parts.toList.map (·.2)))).1 with
          | some r => K (.own s.next) { s with rows := (s.next, .row e r) :: (frzL s.rows (evs s (parts.toList.map (·.2)))).2, next := s.next + 1 }
          | none => False))
    | none => False
  | _ => False

theorem idxFrom_range : ∀ (l : List (Nat × Operand)) (k : Nat), idxFrom k l → l.map (·.1) = List.range' k l.length
  | [], _, _ => rfl
  | (i, _) :: l, k, h => by simp only [List.map_cons, List.length_cons, List.range'_succ]; rw [h.1, idxFrom_range l (k + 1) h.2]

theorem vcBuildSlice_sound {t : TypeId} {len : Nat} {parts : Array (Nat × Operand)} (ho : o.op = .buildSlice t len parts) (h : vcBuildSlice P t len parts s K) : OpSem P w0 T0 o s K := by
  unfold vcBuildSlice at h
  cases ht : P.underlying t with
  | none => rw [ht] at h; exact h.elim
  | some d =>
    rw [ht] at h
    cases d with
    | slice e =>
      dsimp only at h
      cases hz : zeroOf P e with
      | none => rw [hz] at h; exact h.elim
      | some z =>
        rw [hz] at h
        obtain ⟨hez, ⟨hlen, hidx, hok, hsz⟩, h⟩ := h
        cases ha : addElems (zrow z 0) (frzL s.rows (evs s (parts.toList.map (·.2)))).1 with
        | none => rw [ha] at h; exact h.elim
        | some r =>
          rw [ha] at h
          refine OpSem.mem fun H a w m hm => ?_
          obtain ⟨n, env, rows, next⟩ := s
          have hev : RvT (ctxOf T0 w0.heap.size m ⟨n, env, rows, next⟩ w) (evs ⟨n, env, rows, next⟩ (parts.toList.map (·.2))) ((parts.toList.map (·.2)).map a.eval) := hm.evs (fun x hx => by
            obtain ⟨q, hq, rfl⟩ := List.mem_map.1 hx
            exact hok q hq)
          have hfr := frzT_rv _ _ _ hm hev
          have hm1 : RepM w0 T0 H ⟨n, env, (frzL rows (evs ⟨n, env, rows, next⟩ (parts.toList.map (·.2)))).2, next⟩ a w m := hm.forget _ (frzL_sub _ _)
          obtain ⟨i, hi, hiz, his, hib⟩ := hez.ex
          obtain ⟨q1, q2, q3⟩ := zrow_ok (ctxOf T0 w0.heap.size m ⟨n, env, (frzL rows (evs ⟨n, env, rows, next⟩ (parts.toList.map (·.2)))).2, next⟩ w) hez.ok 0
          have hml : (madeCells z.cells (len * z.cells.size)).toList.length = len * z.cells.size := by simp [size_madeCells]
          have hvl : (frzL rows (evs ⟨n, env, rows, next⟩ (parts.toList.map (·.2)))).1.length = len := by
            have := hfr.length; simp at this; rw [← hlen]; simp [this]
          obtain ⟨cells, f1, f2, f3, f4⟩ := fill_elems z.cells.size _ _ (parts.toList.map fun p => (p.1, a.eval p.2)) 0 (zrow z 0) r [] (madeCells z.cells (len * z.cells.size)).toList (by simpa using q1) q3 q2 hfr ha
            (by rw [hml, hvl]) ⟨by simp, by rw [List.map_map]; have := idxFrom_range parts.toList 0 hidx; simpa [Function.comp_def] using this⟩
          have hcl : cells.length = len * z.cells.size := by rw [f2.len, f3, f4, hvl, Nat.zero_add]
          have hnew := hm1.new (w' := w.alloc (.cells cells.toArray e)) (Below.allocB hm1.below _) (fun b hb => Below.heap_alloc w _ b hb)
            (.row e r) (.slice (some ⟨w.heap.size, 0, none⟩) len len) (fun b hb => by cases hb; exact Nat.le_refl _) (fun c' hle hw => by
              refine ⟨len, cells, f2.mono hle, by rw [f3, hvl, Nat.zero_add], ?_⟩
              rw [hw, f4]
              have hpos := zpos hez.ok
              refine ⟨hcl, .inr ⟨w.heap.size, len, cells.toArray, rfl, hm.lt, heap_alloc_new w _, Nat.le_refl _, ?_, by simpa using hcl, by rw [← hcl]; simp⟩⟩
              have : len ≤ len * z.cells.size := Nat.le_mul_of_pos_right _ hpos
              simp only [maxLen]; omega)
          refine ⟨_, _, _, _, _, h, .inl ?_, hold_own hnew rfl⟩
          unfold execOp; rw [ho]
          have hsize : (sizeOf e).run P w = .ok z.cells.size w := by simp [sizeOf, typeInfo, hi, his]
          have hz0 : (zeroValue e).run P w = .ok z w := by simp [zeroValue, typeInfo, hi, hiz]
          have hn16 : ¬ (16777216 < len * z.cells.size) := by omega
          have hfill : Instr.fill (fun i => some (i * z.cells.size, z.cells.size)) ((Array.range (len * z.cells.size)).map (z.cells[· % z.cells.size]!)) (parts.toList.map fun p => (p.1, a.eval p.2)) = some cells.toArray := by
            have := f1; rw [List.nil_append, Array.toArray_toList] at this; exact this
          have hps : (parts.map fun (i, x) => (i, a.eval x)).toList = parts.toList.map fun p => (p.1, a.eval p.2) := by simp
          by_cases h0 : len * z.cells.size = 0
          · have e1 : ∀ f : Nat → Value, (Array.range 0).map f = #[] := fun f => by simp
            rw [h0, e1] at hfill
            simp only [Instr.buildSlice, Sem.run_bind, run_underlying ht, Result.andThen, hsize, h0, hps]
            simp [e1, hfill, newRow]
          · simp only [Instr.buildSlice, Sem.run_bind, run_underlying ht, Result.andThen, hsize, hps]
            simp [h0, hz0, hn16, hfill, newRow]
    | _ => exact h.elim

/-! ### Literals of structs and arrays -/
def bparts (place : Nat → Option (Nat × Nat)) : List AV → List (Nat × AV) → Option (List AV)
  | cs, [] => some cs
  | cs, (i, v) :: l => match place i with
    | some (off, size) => match boxable v with
      | some us => if us.length = size ∧ off + size ≤ cs.length then bparts place (spl cs off us) l else none
      | none => none
    | none => none
theorem bparts_ok {c : Ctx} {place : Nat → Option (Nat × Nat)} : ∀ (parts : List (Nat × AV)) (ops : List (Nat × Value)) (cs cs' : List AV) (vs : List Value), RvL c cs vs → RvT c (parts.map (·.2)) (ops.map (·.2)) → parts.map (·.1) = ops.map (·.1) → bparts place cs parts = some cs' →
    ∃ vs', Instr.fill place vs.toArray ops = some vs'.toArray ∧ RvL c cs' vs'
  | [], ops, cs, cs', vs, h, hv, hi, hb => by
    have : ops = [] := by cases ops with | nil => rfl | cons q l => simp at hi
    subst this
    simp only [bparts] at hb; cases hb
    exact ⟨vs, by simp [Instr.fill], h⟩
  | (i, x) :: parts, ops, cs, cs', vs, h, hv, hi, hb => by
    cases ops with
    | nil => simp at hi
    | cons q ops =>
      obtain ⟨j, u⟩ := q
      simp only [List.map_cons, List.cons.injEq] at hi
      obtain ⟨rfl, hi⟩ := hi
      cases hv with
      | cons _ _ _ _ hx ht =>
        simp only [bparts] at hb
        cases hp : place i with
        | none => rw [hp] at hb; cases hb
        | some os =>
          obtain ⟨off, size⟩ := os
          rw [hp] at hb
          dsimp only at hb
          cases hbx : boxable x with
          | none => rw [hbx] at hb; cases hb
          | some us =>
            rw [hbx] at hb
            dsimp only at hb
            split at hb
            · rename_i e
              have hl := boxable_ok hx hbx
              have hlen := hl.length
              have hlen2 := h.length
              simp at hlen
              rw [fill_step place vs.toArray i u ops off size hp (by omega) (by simp; omega)]
              exact bparts_ok parts ops _ cs' _ (RvL.spl off h hl) ht hi hb
            · cases hb

def placeOf (P : Program) (d : TypeDesc) (i : Nat) : Option (Nat × Nat) :=
  match d with
  | .struct fs => match fs[i]? with
    | some f => some (f.offset, P.cellsOf f.type)
    | none => none
  | .array _ e => some (i * P.cellsOf e, P.cellsOf e)
  | _ => none
/-- The parts' types are there. -/
def fieldsOk (P : Program) : TypeDesc → Prop
  | .struct fs => ∀ f, f ∈ fs.toList → ∃ i, P.info? f.type = some i
  | .array _ e => ∃ i, P.info? e = some i
  | _ => False

def fieldsOkT (P : Program) (t : TypeId) : Prop := ∀ d, P.underlying t = some d → fieldsOk P d

def vcBuild (P : Program) (t : TypeId) (parts : Array (Nat × Operand)) (s : S) (K : AV → S → Prop) : Prop :=
  match P.underlying t, zeroOf P t with
  | some d, some z => Chk (fieldsOkT P t) (Chk ((∀ v, v ∈ z.cells.toList → v.oneCell' = true ∧ strConstsOk v) ∧ ∀ x, x ∈ parts.toList → opndOk x.2)
      (match bparts (placeOf P d) (z.cells.toList.map ofV) (parts.toList.map fun p => (p.1, s.ev p.2)) with
        | some cs => K (.agg cs) s
        | none => False))
  | _, _ => False

theorem mapM_places : ∀ (fs : List Field), (∀ f, f ∈ fs → ∃ i, P.info? f.type = some i) → fs.mapM (fun f => (P.info? f.type).map fun i => (f.offset, i.size)) = some (fs.map fun f => (f.offset, P.cellsOf f.type))
  | [], _ => by simp
  | f :: fs, h => by
    obtain ⟨i, hi⟩ := h f (.head _)
    have ih := mapM_places fs fun g hg => h g (.tail _ hg)
    have hc : P.cellsOf f.type = i.size := by simp [Program.cellsOf, hi]
    simp [List.mapM_cons, hi, ih, hc]

theorem vcBuild_still {t : TypeId} {parts : Array (Nat × Operand)} (ho : o.op = .build t parts) (h : vcBuild P t parts s K) : StillSem P w0 T0 o s K := by
  unfold vcBuild at h
  cases ht : P.underlying t with
  | none => rw [ht] at h; exact h.elim
  | some d =>
    cases hz : zeroOf P t with
    | none => rw [ht, hz] at h; exact h.elim
    | some z =>
      rw [ht, hz] at h
      dsimp only at h
      obtain ⟨hf0, ⟨hzc, hok⟩, h⟩ := h
      have hf := hf0 d ht
      cases hb : bparts (placeOf P d) (z.cells.toList.map ofV) (parts.toList.map fun p => (p.1, s.ev p.2)) with
      | none => rw [hb] at h; exact h.elim
      | some cs =>
        rw [hb] at h
        intro H a w m hm
        have hev : RvT (ctxOf T0 w0.heap.size m s w) ((parts.toList.map fun p => (p.1, s.ev p.2)).map (·.2)) ((parts.toList.map fun p => (p.1, a.eval p.2)).map (·.2)) := by
          have := hm.evs (l := parts.toList.map (·.2)) (fun x hx => by
            obtain ⟨q, hq, rfl⟩ := List.mem_map.1 hx
            exact hok q hq)
          simpa [evs, Function.comp_def] using this
        obtain ⟨vs', h1, h2⟩ := bparts_ok _ _ _ _ _ (zcell_rv (ctxOf T0 w0.heap.size m s w) hzc) hev (by simp) hb
        refine ⟨_, _, h, ?_, .agg _ _ h2⟩
        unfold execOp; rw [ho]
        have hps : (parts.map fun (i, x) => (i, a.eval x)).toList = parts.toList.map fun p => (p.1, a.eval p.2) := by simp
        have h1' : Instr.fill (placeOf P d) z.cells (parts.map fun (i, x) => (i, a.eval x)).toList = some vs'.toArray := by
          rw [hps]; simpa using h1
        have hbuilt : P.built t (parts.map fun (i, x) => (i, a.eval x)).toList = some vs'.toArray := by
          unfold zeroOf at hz
          cases hi : P.info? t with
          | none => rw [hi] at hz; cases hz
          | some it =>
            rw [hi] at hz
            have hz2 : it.zero = some z := hz
            unfold Program.built
            rw [hi, ht]
            cases d with
            | struct fs =>
              simp only [hz2, mapM_places fs.toList hf]
              have he : (fun i => ((fs.toList.map fun f => (f.offset, P.cellsOf f.type)).toArray)[i]?) = placeOf P (.struct fs) := by
                funext i
                simp only [placeOf, List.getElem?_toArray, List.getElem?_map, Array.getElem?_toList]
                cases fs[i]? <;> rfl
              rw [he]; exact h1'
            | array n e =>
              obtain ⟨q, hq⟩ := hf
              have hc : P.cellsOf e = q.size := by simp [Program.cellsOf, hq]
              simp only [hz2, hq]
              have he : (fun i => some (i * q.size, q.size)) = placeOf P (.array n e) := by
                funext i; simp only [placeOf, hc]
              rw [he]; exact h1'
            | _ => exact hf.elim
        have hr := run_build (P := P) w t _ _ hbuilt
        simp [hr]
theorem vcBuild_sound {t : TypeId} {parts : Array (Nat × Operand)} (ho : o.op = .build t parts) (h : vcBuild P t parts s K) : OpSem P w0 T0 o s K := (vcBuild_still ho h).op

end
end Go.Fv
