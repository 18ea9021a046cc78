/-
  The meaning of one operation over abstract values, and the laws that tie it to the model: first part: operands, moves, arithmetic, strings.
-/
import Derived.Test.YtfebnhmnkgnofaaDoorFvAv
namespace Go.Fv
open Go.RowKit
set_option linter.unusedVariables false
set_option linter.unusedSimpArgs false
set_option linter.unnecessarySimpa false

/-! ### Words that stop the reckoning -/
def LetW (k : IntKind) (e : Int) (K : Int → Prop) : Prop := ∀ n, n = k.wrap e → InK k n → K n
def Chk (p : Prop) (K : Prop) : Prop := p ∧ K
def Asm (p : Prop) (K : Prop) : Prop := p → K
/-- A branch: simp does not look inside. -/
class Br where
  p : Prop
def Ite (b : Bool) [x : Br] [y : Br] : Prop := (b = true → x.p) ∧ (b = false → y.p)

theorem Chk.intro {p K : Prop} (h : p) (k : K) : Chk p K := ⟨h, k⟩
theorem Asm.intro {p K : Prop} (k : p → K) : Asm p K := k
theorem Ite.intro {b : Bool} {x y : Prop} (h1 : b = true → x) (h2 : b = false → y) : @Ite b ⟨x⟩ ⟨y⟩ := ⟨h1, h2⟩
theorem Ite.decide {p : Prop} [Decidable p] {x y : Prop} (h1 : p → x) (h2 : ¬ p → y) : @Ite (decide p) ⟨x⟩ ⟨y⟩ := ⟨fun h => h1 (of_decide_eq_true h), fun h => h2 (of_decide_eq_false h)⟩
theorem Ite_true (x y : Prop) : @Ite true ⟨x⟩ ⟨y⟩ = x := by simp [Ite]
theorem Ite_false (x y : Prop) : @Ite false ⟨x⟩ ⟨y⟩ = y := by simp [Ite]
@[congr] theorem Chk_congr {p q K : Prop} (h : p = q) : Chk p K = Chk q K := by rw [h]
@[congr] theorem Asm_congr {p K : Prop} : Asm p K = Asm p K := rfl
@[congr] theorem LetW_congr {k : IntKind} {e e' : Int} {K : Int → Prop} (h : e = e') : LetW k e K = LetW k e' K := by rw [h]

theorem wrap_of_in {k : IntKind} {e : Int} (h : InK k e) : k.wrap e = e := by
  obtain ⟨h1, h2⟩ := h
  cases k <;> simp [IntKind.wrap, IntKind.min, IntKind.max, IntKind.signed, IntKind.bits] at * <;> (try split) <;> omega
theorem InK_wrap (k : IntKind) (e : Int) : InK k (k.wrap e) := by
  unfold InK
  cases k <;> simp [IntKind.wrap, IntKind.min, IntKind.max, IntKind.signed, IntKind.bits] <;> (try split) <;> omega
theorem LetW.inR {k : IntKind} {e : Int} {K : Int → Prop} (h : InK k e) (kk : K e) : LetW k e K := fun n hn _ => by
  rw [wrap_of_in h] at hn; subst hn; exact kk
theorem LetW_eq {k : IntKind} {e : Int} : LetW k e (fun n => n = e) = InK k e :=
  propext ⟨fun h => by have := h (k.wrap e) rfl (InK_wrap k e); rw [← this]; exact InK_wrap k e, fun h => LetW.inR h rfl⟩
theorem LetW_q {k : IntKind} {e : Int} {q : Prop} : LetW k e (fun n => AV.int k n = AV.int k e ∧ q) = (InK k e ∧ q) := by
  apply propext
  constructor
  · intro h
    have h1 := h (k.wrap e) rfl (InK_wrap k e)
    have h2 : k.wrap e = e := by have := h1.1; injection this
    exact ⟨by rw [← h2]; exact InK_wrap k e, h1.2⟩
  · rintro ⟨h1, h2⟩
    exact LetW.inR h1 ⟨rfl, h2⟩
theorem LetW_q1 {k : IntKind} {e : Int} : LetW k e (fun n => AV.int k n = AV.int k e) = InK k e := by
  have := LetW_q (k := k) (e := e) (q := True)
  simpa using this
theorem Chk_r {p : Prop} : Chk p True = p := by simp [Chk]
theorem Asm_r {p : Prop} : Asm p True = True := by simp [Asm]
theorem InK_i64 {n : Int} : InK .i64 n ↔ (-9223372036854775808 ≤ n ∧ n ≤ 9223372036854775807) := by
  simp [InK, IntKind.min, IntKind.max, IntKind.signed, IntKind.bits]
theorem InK_u8 {n : Int} : InK .u8 n ↔ (0 ≤ n ∧ n ≤ 255) := by
  simp [InK, IntKind.min, IntKind.max, IntKind.signed, IntKind.bits]
theorem InK_u32 {n : Int} : InK .u32 n ↔ (0 ≤ n ∧ n ≤ 4294967295) := by
  simp [InK, IntKind.min, IntKind.max, IntKind.signed, IntKind.bits]
theorem InK_u64 {n : Int} : InK .u64 n ↔ (0 ≤ n ∧ n ≤ 18446744073709551615) := by
  simp [InK, IntKind.min, IntKind.max, IntKind.signed, IntKind.bits]
theorem InK_i32 {n : Int} : InK .i32 n ↔ (-2147483648 ≤ n ∧ n ≤ 2147483647) := by
  simp [InK, IntKind.min, IntKind.max, IntKind.signed, IntKind.bits]
theorem LetW.i64 {e : Int} {K : Int → Prop} (h1 : -9223372036854775808 ≤ e) (h2 : e ≤ 9223372036854775807) (kk : K e) : LetW .i64 e K := .inR (InK_i64.2 ⟨h1, h2⟩) kk
theorem LetW.u8 {e : Int} {K : Int → Prop} (h1 : 0 ≤ e) (h2 : e ≤ 255) (kk : K e) : LetW .u8 e K := .inR (InK_u8.2 ⟨h1, h2⟩) kk
theorem LetW_i64 {e : Int} {K : Int → Prop} (h1 : -9223372036854775808 ≤ e) (h2 : e ≤ 9223372036854775807) : LetW .i64 e K = K e :=
  propext ⟨fun h => h e (wrap_of_in (InK_i64.2 ⟨h1, h2⟩)).symm (InK_i64.2 ⟨h1, h2⟩), fun h => .inR (InK_i64.2 ⟨h1, h2⟩) h⟩
theorem Chk_true {K : Prop} : Chk True K = K := propext ⟨fun x => x.2, fun x => ⟨trivial, x⟩⟩
theorem Chk_of {p K : Prop} (h : p) : Chk p K = K := propext ⟨fun x => x.2, fun x => ⟨h, x⟩⟩

/-! ### Operands -/
def inKB : IntKind → Int → Bool
  | .i64, n => decide (-9223372036854775808 ≤ n) && decide (n ≤ 9223372036854775807)
  | .u8, n => decide (0 ≤ n) && decide (n ≤ 255)
  | .u32, n => decide (0 ≤ n) && decide (n ≤ 4294967295)
  | .u64, n => decide (0 ≤ n) && decide (n ≤ 18446744073709551615)
  | .i32, n => decide (-2147483648 ≤ n) && decide (n ≤ 2147483647)
  | _, _ => false
theorem InK_of_B {k : IntKind} {n : Int} (h : inKB k n = true) : InK k n := by
  cases k <;> simp [inKB] at h
  · exact InK_i32.2 h
  · exact InK_i64.2 h
  · exact InK_u8.2 h
  · exact InK_u32.2 h
  · exact InK_u64.2 h
def ofV : Value → AV
  | .bool b => .bool b
  | .int k n => bif inKB k n then .int k n else .raw (.int k n)
  | .string s => .str s.data.toList
  | .slice none 0 0 => .nilS
  | v => .raw v
def S.ev (s : S) : Operand → AV
  | .tmp t => match s.get t with
    | .opt c v => cond c v .dead
    | x => x
  | .const v => ofV v
  | .func f => .fn f []
  | .global _ => .dead

section
variable {w0 w : World} {T0 : Nat → Prop} {H : List (AV × Value)} {s : S} {a : Act} {m : Nat → Value}

def strConstsOk : Value → Prop
  | .string s => s.size ≤ maxLen
  | _ => True

theorem ofV_rv (c : Ctx) (v : Value) (h : strConstsOk v) : Rv c (ofV v) v := by
  cases v with
  | bool b => exact .bool b
  | int k n =>
    simp only [ofV]
    cases hb : inKB k n with
    | true => exact .int k n (InK_of_B hb)
    | false => exact .raw _
  | string s => exact .str _ (by simpa [strConstsOk] using h)
  | slice a l c =>
    cases a with
    | some a => exact .raw _
    | none =>
      cases l with
      | succ l => exact .raw _
      | zero =>
        cases c with
        | succ c => exact .raw _
        | zero => exact .nilS
  | _ => exact .raw _

def opndOk : Operand → Prop
  | .const v => strConstsOk v
  | _ => True

theorem RepM.ev (h : RepM w0 T0 H s a w m) (x : Operand) (hx : opndOk x) : Rv (ctxOf T0 w0.heap.size m s w) (s.ev x) (a.eval x) := by
  cases x with
  | tmp t =>
    simp only [S.ev, S.get, Act.eval]
    cases hl : lk s.env t with
    | none => exact .dead _
    | some v =>
      have hv := h.env t v hl
      cases v <;> try exact hv
      rename_i c v
      cases hv with
      | opt _ _ _ hb hv _ =>
        cases c with
        | true => exact hv rfl
        | false => exact .dead _
  | const v => exact ofV_rv _ v hx
  | func f => exact .fn f [] [] .nil
  | global g => exact .dead _

/-- The state goes on to one with more in its context and nothing turned that was readable. -/
theorem RepM.hold (h : RepM w0 T0 H s a w m) {x : AV} {v : Value} (hx : Rv (ctxOf T0 w0.heap.size m s w) x v) : RepM w0 T0 ((x, v) :: H) s a w m :=
  { h with
    held := by
      intro p hp
      cases List.mem_cons.1 hp with
      | inl e => subst e; exact hx
      | inr e => exact h.held p e }

theorem RepM.putd (h : RepM w0 T0 H s a w m) {x : AV} {v : Value} (hx : Rv (ctxOf T0 w0.heap.size m s w) x v) {d : Nat} (hd : d < s.n) : RepM w0 T0 H (s.set d x) (a.put (some d) v) w m := by
  refine { size := by simpa [Act.put, S.set] using h.size, nodef := h.nodef, below := h.below, env := ?_, held := h.held, rows := h.rows, sep := h.sep }
  intro r y hy
  have hy' : (if d = r then some x else lk s.env r) = some y := hy
  by_cases e : d = r
  · subst e
    rw [if_pos rfl] at hy'
    cases hy'
    have : ((a.put (some d) v).tmps).getD d undef = v := by
      simp [Act.put, Array.getD, h.size, hd]
    rw [this]; exact hx
  · rw [if_neg e] at hy'
    have : ((a.put (some d) v).tmps).getD r undef = a.tmps.getD r undef := by
      simp only [Act.put, Array.getD_eq_getD_getElem?]
      rw [Array.getElem?_setIfInBounds_ne e]
    rw [this]; exact h.env r y hy'

theorem RepM.unhold {p : AV × Value} (h : RepM w0 T0 (p :: H) s a w m) : RepM w0 T0 H s a w m :=
  { h with held := fun q hq => h.held q (List.mem_cons_of_mem _ hq) }
end

/-- What an operation does: 'K' of its result and the state behind it. -/
def OpSem (P : Program) (w0 : World) (T0 : Nat → Prop) (o : Oper) (s : S) (K : AV → S → Prop) : Prop :=
  ∀ (H : List (AV × Value)) (a : Act) (w : World) (next : Act → World → Prop) (Q : Exit → Act → World → Prop), Rep w0 T0 H s a w →
    (∀ r s' v w', K r s' → Rep w0 T0 ((r, v) :: H) s' a w' → next (a.put o.dst v) w') → o.wp P a w next Q

theorem OpSem.pure {P : Program} {w0 : World} {T0 : Nat → Prop} {o : Oper} {s : S} {K : AV → S → Prop}
    (h : ∀ (H : List (AV × Value)) (a : Act) (w : World) (m : Nat → Value), RepM w0 T0 H s a w m → ∃ r v, K r s ∧ (execOp a.eval o).run P w = .ok (.value v) w ∧ Rv (ctxOf T0 w0.heap.size m s w) r v) :
    OpSem P w0 T0 o s K := by
  intro H a w next Q ⟨m, hm⟩ hn
  obtain ⟨r, v, hk, hr, hv⟩ := h H a w m hm
  unfold Oper.wp
  rw [hr]
  exact hn r s v w hk ⟨m, hm.hold hv⟩

/-- An operation that gives a value and leaves the world as it is. -/
def StillSem (P : Program) (w0 : World) (T0 : Nat → Prop) (o : Oper) (s : S) (K : AV → S → Prop) : Prop :=
  ∀ (H : List (AV × Value)) (a : Act) (w : World) (m : Nat → Value), RepM w0 T0 H s a w m → ∃ r v, K r s ∧ (execOp a.eval o).run P w = .ok (.value v) w ∧ Rv (ctxOf T0 w0.heap.size m s w) r v
theorem StillSem.op {P : Program} {w0 : World} {T0 : Nat → Prop} {o : Oper} {s : S} {K : AV → S → Prop} (h : StillSem P w0 T0 o s K) : OpSem P w0 T0 o s K := OpSem.pure h
end Go.Fv
