/-
  Each operation's meaning over abstract states, and its law.
-/
import Derived.Test.YtfebnhmnkgnofaaDoorFvGrow
namespace Go.Fv
open Go.RowKit
set_option linter.unusedVariables false
set_option linter.unusedSimpArgs false
set_option linter.unnecessarySimpa false

section
variable {P : Program} {w0 : World} {T0 : Nat → Prop} {o : Oper} {s : S} {K : AV → S → Prop}

theorem OpSem.mem (h : ∀ (H : List (AV × Value)) (a : Act) (w : World) (m : Nat → Value), RepM w0 T0 H s a w m →
      ∃ r v s' w' m', K r s' ∧ ((execOp a.eval o).run P w = .ok (.value v) w' ∨ ((execOp a.eval o).run P w = .ok .skip w' ∧ v = undef)) ∧ RepM w0 T0 ((r, v) :: H) s' a w' m') : OpSem P w0 T0 o s K := by
  intro H a w next Q ⟨m, hm⟩ hn
  obtain ⟨r, v, s', w', m', hk, hr, hv⟩ := h H a w m hm
  unfold Oper.wp
  rcases hr with hr | ⟨hr, rfl⟩
  · rw [hr]; exact hn r s' v w' hk ⟨m', hv⟩
  · rw [hr]; exact hn r s' undef w' hk ⟨m', hv⟩

def S.add (s : S) (it : Item) : S := { s with rows := (s.next, it) :: s.rows, next := s.next + 1 }
def S.swap (s : S) (i : Nat) (it : Item) : S := { s with rows := (s.next, it) :: del s.rows i, next := s.next + 1 }
def S.upd (s : S) (i : Nat) (it : Item) : S := { s with rows := put s.rows i it }

/-! ### move, pick, extract, functions -/
def vcMove (P : Program) (t : TypeId) (x : Operand) (s : S) (K : AV → S → Prop) : Prop :=
  match x with
  | .const (.slice none 0 0) =>
    match P.underlying t with
    | some (.slice e) => match zeroOf P e with
      | some z => Chk (ElemZ P e z) (K (.own s.next) (s.add (.row e (zrow z 0))))
      | none => False
    | _ => False
  | .const (.agg cs) => Chk (∀ v, v ∈ cs.toList → v.oneCell' = true ∧ strConstsOk v) (K (.agg (cs.toList.map ofV)) s)
  | x => Chk (opndOk x) (K (s.ev x) s)

theorem new_nil {H : List (AV × Value)} {a : Act} {w : World} {m : Nat → Value} (h : RepM w0 T0 H s a w m) {e : TypeId} {z : Value} (hz : ElemZ P e z) :
    RepM w0 T0 ((.own s.next, .slice none 0 0) :: H) (s.add (.row e (zrow z 0))) a w (Fv.upd m s.next (.slice none 0 0)) := by
  have h2 := h.new (w' := w) h.below (fun _ _ => rfl) (.row e (zrow z 0)) (.slice none 0 0) (fun b hb => by cases hb) (fun c _ hw => by
    obtain ⟨h1, h2, h3⟩ := zrow_ok c hz.ok 0
    exact ⟨0, [], by simpa using h1, h2, by rw [hw]; exact World.ownsRow_nil _ _ _ _⟩)
  refine h2.hold ?_
  have : (Fv.upd m s.next (.slice none 0 0)) s.next = .slice none 0 0 := upd_same _ _ _
  have hr : Rv (ctxOf T0 w0.heap.size (Fv.upd m s.next (.slice none 0 0)) (s.add (.row e (zrow z 0))) w) (.own s.next) ((Fv.upd m s.next (.slice none 0 0)) s.next) := .own _ (Nat.lt_succ_self _) (by show Value.oneCell' (Fv.upd m s.next (.slice none 0 0) s.next) = true; rw [this]; rfl)
  rw [this] at hr; exact hr

theorem vcMove_sound {x : Operand} (ho : o.op = .move x ∨ o.op = .assign x) (h : vcMove P o.type x s K) : OpSem P w0 T0 o s K := by
  have hrun : ∀ (ρ : Operand → Value) (w : World), (execOp ρ o).run P w = .ok (.value (ρ x)) w := by
    intro ρ w; unfold execOp; rcases ho with ho | ho <;> rw [ho] <;> rfl
  unfold vcMove at h
  split at h
  · split at h
    · split at h
      · obtain ⟨hz, hk⟩ := h
        refine OpSem.mem fun H a w m hm => ?_
        exact ⟨.own s.next, .slice none 0 0, _, w, _, hk, .inl (hrun _ _), new_nil hm hz⟩
      · exact h.elim
    · exact h.elim
  · obtain ⟨h1, hk⟩ := h
    refine OpSem.pure fun H a w m hm => ⟨_, _, hk, hrun _ _, ?_⟩
    have := zcell_rv (ctxOf T0 w0.heap.size m s w) h1
    simpa [Act.eval] using Rv.agg _ _ this
  · obtain ⟨h1, hk⟩ := h
    exact OpSem.pure fun H a w m hm => ⟨_, _, hk, hrun _ _, hm.ev x h1⟩

def vcPick (c x y : Operand) (s : S) (K : AV → S → Prop) : Prop :=
  match s.ev c with
  | .bool b => Chk (opndOk x ∧ opndOk y) (@Ite b ⟨K (s.ev x) s⟩ ⟨K (s.ev y) s⟩)
  | _ => False
theorem vcPick_still {c x y : Operand} (ho : o.op = .pick c x y) (hc : opndOk c) (h : vcPick c x y s K) : StillSem P w0 T0 o s K := by
  unfold vcPick at h
  intro H a w m hm
  have rc := hm.ev c hc
  revert h rc
  generalize s.ev c = ac
  intro h rc
  cases ac with
  | bool b =>
    obtain ⟨⟨hx, hy⟩, h⟩ := h
    generalize hvc : a.eval c = vc at rc
    cases rc
    have hrun : (execOp a.eval o).run P w = .ok (.value (if b then a.eval x else a.eval y)) w := by
      unfold execOp; rw [ho]; simp [hvc, asBool, Sem.run_bind, Result.andThen]
    cases b with
    | true => exact ⟨_, _, h.1 rfl, hrun, hm.ev x hx⟩
    | false => exact ⟨_, _, h.2 rfl, hrun, hm.ev y hy⟩
  | _ => exact h.elim
theorem vcPick_sound {c x y : Operand} (ho : o.op = .pick c x y) (hc : opndOk c) (h : vcPick c x y s K) : OpSem P w0 T0 o s K := (vcPick_still ho hc h).op

def vcExtract (x : Operand) (i : Nat) (s : S) (K : AV → S → Prop) : Prop :=
  match s.ev x with
  | .tup l => match l[i]? with
    | some v => K v s
    | none => False
  | _ => False
theorem vcExtract_still {x : Operand} {i : Nat} (ho : o.op = .extract x i) (hx : opndOk x) (h : vcExtract x i s K) : StillSem P w0 T0 o s K := by
  unfold vcExtract at h
  intro H a w m hm
  have rc := hm.ev x hx
  revert h rc
  generalize s.ev x = ac
  intro h rc
  cases ac with
  | tup l =>
    dsimp only at h
    generalize hvc : a.eval x = vc at rc
    cases rc with
    | tup _ vs hl =>
      cases hi : l[i]? with
      | none => rw [hi] at h; exact h.elim
      | some y =>
        rw [hi] at h
        obtain ⟨v, hv, hr⟩ := hl.get hi
        refine ⟨y, v, h, ?_, hr⟩
        unfold execOp; rw [ho]; simp [hvc, Instr.extract, hv, Sem.run_bind, Result.andThen]
  | _ => exact h.elim
theorem vcExtract_sound {x : Operand} {i : Nat} (ho : o.op = .extract x i) (hx : opndOk x) (h : vcExtract x i s K) : OpSem P w0 T0 o s K := (vcExtract_still ho hx h).op

def evs (s : S) (l : List Operand) : List AV := l.map s.ev
theorem RepM.evs {H : List (AV × Value)} {a : Act} {w : World} {m : Nat → Value} (hm : RepM w0 T0 H s a w m) : ∀ {l : List Operand}, (∀ x, x ∈ l → opndOk x) → RvT (ctxOf T0 w0.heap.size m s w) (evs s l) (l.map a.eval)
  | [], _ => .nil
  | x :: l, h => .cons _ _ _ _ (hm.ev x (h x (.head _))) (RepM.evs hm fun y hy => h y (.tail _ hy))

def vcMakeFunc (fn : Fn) (first captured : Array Operand) (s : S) (K : AV → S → Prop) : Prop :=
  match fn with
  | .func f => Chk (first = #[] ∧ ∀ x, x ∈ captured.toList → opndOk x) (K (.fn f (evs s captured.toList)) s)
  | _ => False
theorem vcMakeFunc_still {fn : Fn} {first captured : Array Operand} (ho : o.op = .makeFunc fn first captured) (h : vcMakeFunc fn first captured s K) : StillSem P w0 T0 o s K := by
  unfold vcMakeFunc at h
  cases fn with
  | func f =>
    obtain ⟨⟨rfl, hc⟩, hk⟩ := h
    intro H a w m hm
    refine ⟨.fn f (evs s captured.toList), .func (.func f) #[] ((captured.toList.map a.eval).toArray), hk, ?_, .fn f _ _ (hm.evs hc)⟩
    unfold execOp; rw [ho]; simp [Instr.makeFunc]; rw [← Array.toList_map]
  | _ => exact h.elim
theorem vcMakeFunc_sound {fn : Fn} {first captured : Array Operand} (ho : o.op = .makeFunc fn first captured) (h : vcMakeFunc fn first captured s K) : OpSem P w0 T0 o s K := (vcMakeFunc_still ho h).op

/-! ### Boxes -/
def boxable : AV → Option (List AV)
  | .agg cs => some cs
  | .bool b => some [.bool b]
  | .int k n => some [.int k n]
  | .str l => some [.str l]
  | .ro r => some [.ro r]
  | .own i => some [.own i]
  | .nilS => some [.nilS]
  | .fn f c => some [.fn f c]
  | .ptr i off => some [.ptr i off]
  | .elt i sz x off => some [.elt i sz x off]
  | .cell cs => some [.cell cs]
  | _ => none
theorem cells_of_one {v : Value} (h : v.oneCell' = true) : v.cells.toList = [v] := by
  cases v <;> first | rfl | exact absurd h (by simp [Value.oneCell'])
theorem boxable_ok {c : Ctx} {x : AV} {v : Value} {cs : List AV} (h : Rv c x v) (hb : boxable x = some cs) : RvL c cs v.cells.toList := by
  have one : ∀ (x : AV) (v : Value), Rv c x v → v.oneCell' = true → RvL c [x] v.cells.toList := fun x v hx h1 => by
    rw [cells_of_one h1]; exact .cons _ _ _ _ hx h1 .nil
  cases h with
  | agg cs' vs hl => cases hb; simpa [Value.cells] using hl
  | own i hi h1 => cases hb; exact one _ _ (.own i hi h1) h1
  | dead _ => cases hb
  | raw _ => cases hb
  | opt _ _ _ _ _ _ => cases hb
  | tup _ _ _ => cases hb
  | nilS => cases hb; exact one _ _ .nilS rfl
  | bool b => cases hb; exact one _ _ (.bool b) rfl
  | int k n hk => cases hb; exact one _ _ (.int k n hk) rfl
  | str l hl => cases hb; exact one _ _ (.str l hl) rfl
  | roNil r hr => cases hb; exact one _ _ (.roNil r hr) rfl
  | ro r a len cap cells h1 h2 h3 h4 h5 => cases hb; exact one _ _ (.ro r a len cap cells h1 h2 h3 h4 h5) rfl
  | cell cs vs a h1 h2 h3 => cases hb; exact one _ _ (.cell cs vs a h1 h2 h3) rfl
  | ptr i off g h1 h2 => cases hb; exact one _ _ (.ptr i off g h1 h2) rfl
  | elt i sz idx off g h1 h2 => cases hb; exact one _ _ (.elt i sz idx off g h1 h2) rfl
  | fn f cs vs h1 => cases hb; exact one _ _ (.fn f cs vs h1) rfl

theorem Below.allocB {w0 w : World} (h : Below w0.heap.size w0 w) (o : Obj) : Below w0.heap.size w0 (w.alloc o) := h.alloc h.size o

theorem new_box {H : List (AV × Value)} {a : Act} {w : World} {m : Nat → Value} (h : RepM w0 T0 H s a w m) {e : TypeId} {cs : List AV} {vs : List Value}
    (hl : RvL (ctxOf T0 w0.heap.size m s w) cs vs) :
    RepM w0 T0 ((.ptr s.next 0, .pointer (some ⟨w.heap.size, 0, none⟩)) :: H) (s.add (.box e cs)) a (w.alloc (.cells vs.toArray e)) (Fv.upd m s.next (.pointer (some ⟨w.heap.size, 0, none⟩))) := by
  have h2 := h.new (w' := w.alloc (.cells vs.toArray e)) (Below.allocB h.below _) (fun b hb => Below.heap_alloc w _ b hb) (.box e cs) (.pointer (some ⟨w.heap.size, 0, none⟩))
    (fun b hb => by cases hb; exact Nat.le_refl _) (fun c hle hw => by
      refine ⟨w.heap.size, vs, rfl, h.lt, hl.mono hle, by rw [hw]; exact heap_alloc_new w _⟩)
  refine h2.hold ?_
  exact .ptr _ _ _ (Nat.lt_succ_self _) (by show blk (Fv.upd m s.next _ s.next) = _; rw [upd_same]; rfl)

def vcBox (e : TypeId) (x : Operand) (s : S) (K : AV → S → Prop) : Prop :=
  match boxable (s.ev x) with
  | some cs => Chk (opndOk x) (K (.ptr s.next 0) (s.add (.box e cs)))
  | none => False
theorem vcBox_sound {e : TypeId} {x : Operand} (ho : o.op = .box e x) (h : vcBox e x s K) : OpSem P w0 T0 o s K := by
  unfold vcBox at h
  cases hb : boxable (s.ev x) with
  | none => rw [hb] at h; exact h.elim
  | some cs =>
    rw [hb] at h
    obtain ⟨hx, hk⟩ := h
    refine OpSem.mem fun H a w m hm => ?_
    have hl := boxable_ok (hm.ev x hx) hb
    refine ⟨_, _, _, _, _, hk, .inl ?_, new_box hm (e := e) hl⟩
    unfold execOp; rw [ho]
    simp [Instr.box, newVar, newRow]

def vcAlloc (P : Program) (e : TypeId) (s : S) (K : AV → S → Prop) : Prop :=
  match zeroOf P e with
  | some z => Chk (∀ v, v ∈ z.cells.toList → v.oneCell' = true ∧ strConstsOk v) (K (.ptr s.next 0) (s.add (.box e (z.cells.toList.map ofV))))
  | none => False
theorem vcAlloc_sound {e : TypeId} (ho : o.op = .alloc e) (h : vcAlloc P e s K) : OpSem P w0 T0 o s K := by
  unfold vcAlloc at h
  cases hz : zeroOf P e with
  | none => rw [hz] at h; exact h.elim
  | some z =>
    rw [hz] at h
    obtain ⟨h1, hk⟩ := h
    refine OpSem.mem fun H a w m hm => ?_
    refine ⟨_, _, _, _, _, hk, .inl ?_, new_box hm (e := e) (zcell_rv _ h1)⟩
    unfold zeroOf at hz
    cases hi : P.info? e with
    | none => rw [hi] at hz; cases hz
    | some i =>
      rw [hi] at hz
      have hz' : i.zero = some z := hz
      unfold execOp; rw [ho]
      simp [Instr.alloc, zeroValue, typeInfo, hi, hz', newVar, newRow]
end
end Go.Fv
