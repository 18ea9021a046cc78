/-
  Operations that are carried out only under a condition: what they leave, said under that condition.
-/
import Derived.Test.YtfebnhmnkgnofaaDoorFvOps5
namespace Go.Fv
open Go.RowKit
set_option linter.unusedVariables false
set_option linter.unusedSimpArgs false
set_option linter.unnecessarySimpa false

/-- What an operand is, and under which condition. -/
def pkC (s : S) : Operand → Bool
  | .tmp t => match s.get t with | .opt c _ => c | _ => true
  | _ => true
def pkV (s : S) : Operand → AV
  | .tmp t => match s.get t with | .opt _ v => v | v => v
  | x => s.ev x
/-- The temporaries among these operands that are known under a condition: as if it held. -/
def peelE (s : S) : List Operand → List (Nat × AV)
  | [] => []
  | .tmp t :: l => match s.get t with | .opt _ v => (t, v) :: peelE s l | _ => peelE s l
  | _ :: l => peelE s l
def peelC (s : S) : List Operand → Bool
  | [] => true
  | .tmp t :: l => match s.get t with | .opt c _ => c && peelC s l | _ => peelC s l
  | _ :: l => peelC s l
def peel (s : S) (l : List Operand) : S := { s with env := peelE s l ++ s.env }

def gOps : Op → List Operand
  | .move x => [x]
  | .assign x => [x]
  | .binOp _ _ x y _ => [x, y]
  | .unOp _ _ x => [x]
  | .index _ x i => [x, i]
  | .indexAddr _ x i => [x, i]
  | .load _ x => [x]
  | .field _ x _ => [x]
  | .fieldAddr _ x _ => [x]
  | .convert _ _ x => [x]
  | .extract x _ => [x]
  | .call c => c.args.toList
  | _ => []
def gBin (op : BinOp) (x y : AV) : Option AV :=
  match x, y with
  | .int k a, .int _ b => match op with
    | .add => some (.int k (a + b))
    | .sub => some (.int k (a - b))
    | .mul => some (.int k (a * b))
    | .quo => some (.int k (a.tdiv b))
    | .rem => some (.int k (a.tmod b))
    | .and => some (.int k (bitsI .and k a b))
    | .or => some (.int k (bitsI .or k a b))
    | .xor => some (.int k (bitsI .xor k a b))
    | .andNot => some (.int k (bitsI .andNot k a b))
    | .shl => some (.int k (shlI k a b))
    | .shr => some (.int k (shrI k a b))
    | .eql => some (.bool (decide (a = b)))
    | .neq => some (.bool (decide (¬ a = b)))
    | .lss => some (.bool (decide (a < b)))
    | .leq => some (.bool (decide (a ≤ b)))
    | .gtr => some (.bool (decide (b < a)))
    | .geq => some (.bool (decide (b ≤ a)))
  | .str a, .str b => match op with
    | .add => some (.str (a ++ b))
    | .eql => some (.bool (decide (a = b)))
    | .neq => some (.bool (decide (¬ a = b)))
    | .lss => some (.bool (Op.bytesLess a b))
    | .leq => some (.bool (Op.bytesLess a b || decide (a = b)))
    | .gtr => some (.bool (!(Op.bytesLess a b || decide (a = b))))
    | .geq => some (.bool (!Op.bytesLess a b))
    | _ => none
  | .bool a, .bool b => match op with
    | .eql => some (.bool (decide (a = b)))
    | .neq => some (.bool (decide (¬ a = b)))
    | _ => none
  | _, _ => none
def gLen (s : S) : AV → Option AV
  | .str l => some (.int .i64 l.length)
  | .ro r => some (.int .i64 r.len)
  | .own i => match lk s.rows i with
    | some (.row _ r) => some (.int .i64 r.len)
    | _ => none
  | .nilS => some (.int .i64 0)
  | _ => none
def gHead : List AV → Option AV
  | x :: _ => some x
  | [] => none
def gCell (P : Program) (t : TypeId) (cs : List AV) : Option AV :=
  match P.underlying t with
  | some d => bif aggB d then some (.agg (cs.take (P.cellsOf t))) else gHead cs
  | none => none
/-- What the operation gives, if it is one that changes nothing. -/
def gVal (P : Program) (s : S) : Op → Option AV
  | .move (.const (.slice _ _ _)) => none
  | .assign (.const (.slice _ _ _)) => none
  | .move x => some (s.ev x)
  | .assign x => some (s.ev x)
  | .binOp op _ x y _ => gBin op (s.ev x) (s.ev y)
  | .unOp op _ x => match op, s.ev x with
    | .not, .bool b => some (.bool (!b))
    | _, _ => none
  | .call c => match c.callee, c.args.toList with
    | .builtin .len, [x] => gLen s (s.ev x)
    | _, _ => none
  | .index _ x i => match s.ev x, s.ev i with
    | .str l, .int _ n => some (.int .u8 (l.getD n.toNat 0).toNat)
    | _, _ => none
  | .indexAddr _ x i => match s.ev x, s.ev i with
    | .ro r, .int _ n => some (.cell (elemA r n.toNat))
    | .own j, .int _ n => match lk s.rows j with
      | some (.row _ r) => some (.elt j r.sz n.toNat 0)
      | _ => none
    | _, _ => none
  | .load t x => match s.ev x with
    | .cell cs => gCell P t cs
    | .ptr i off => match lk s.rows i with
      | some (.box _ cs) => gCell P t (cs.drop off)
      | _ => none
    | .elt i _ idx off => match lk s.rows i with
      | some (.row _ r) => gCell P t ((elemA r idx).drop off)
      | _ => none
    | _ => none
  | .field t x k => match P.underlying t, s.ev x with
    | some (.struct fs), .agg cs => match fs[k]? with
      | some f => gCell P f.type (cs.drop f.offset)
      | none => none
    | _, _ => none
  | .fieldAddr t x k => match P.underlying t with
    | some (.struct fs) => match fs[k]? with
      | some f => match s.ev x with
        | .cell cs => some (.cell (cs.drop f.offset))
        | .ptr i off => some (.ptr i (off + f.offset))
        | .elt i sz idx off => some (.elt i sz idx (off + f.offset))
        | _ => none
      | none => none
    | _ => none
  | .extract x i => match s.ev x with
    | .tup l => l[i]?
    | _ => none
  | _ => none
/-- A choice between two truths, each perhaps known under a condition only. -/
def gPick (s : S) : Op → Option (Prop × Bool)
  | .pick c x y => match pkV s c, pkV s x, pkV s y with
    | .bool b, .bool p, .bool q => some (pkC s c = true ∧ (b = true → pkC s x = true) ∧ (b = false → pkC s y = true), cond b p q)
    | _, _, _ => none
  | _ => none

section
variable {w0 w : World} {T0 : Nat → Prop} {H : List (AV × Value)} {s : S} {a : Act} {m : Nat → Value}

theorem pk_rv (h : RepM w0 T0 H s a w m) {x : Operand} (hx : opndOk x) (hc : pkC s x = true) : Rv (ctxOf T0 w0.heap.size m s w) (pkV s x) (a.eval x) := by
  cases x with
  | tmp t =>
    simp only [pkC, pkV, S.get, Act.eval] at *
    cases hl : lk s.env t with
    | none => exact .dead _
    | some v =>
      have hv := h.env t v hl
      rw [hl] at hc
      cases v <;> try exact hv
      cases hv with
      | opt _ _ _ hb hv _ => exact hv hc
  | const v => exact h.ev _ hx
  | func f => exact h.ev _ hx
  | global g => exact h.ev _ hx

theorem peelE_lk {l : List Operand} {r : Nat} {v : AV} (h : lk (peelE s l) r = some v) : ∃ c, s.get r = .opt c v := by
  induction l with
  | nil => simp [peelE, lk] at h
  | cons x l ih =>
    cases x with
    | tmp t =>
      simp only [peelE] at h
      split at h
      · rename_i c v' he
        simp only [lk] at h
        split at h
        · rename_i e; subst e; cases h; exact ⟨c, he⟩
        · exact ih h
      · exact ih h
    | const v => exact ih (by simpa [peelE] using h)
    | func f => exact ih (by simpa [peelE] using h)
    | global g => exact ih (by simpa [peelE] using h)
theorem peelC_lk {l : List Operand} {r : Nat} {v : AV} (hc : peelC s l = true) (h : lk (peelE s l) r = some v) : s.get r = .opt true v := by
  induction l with
  | nil => simp [peelE, lk] at h
  | cons x l ih =>
    cases x with
    | tmp t =>
      simp only [peelE] at h
      simp only [peelC] at hc
      split at h
      · rename_i c v' he
        rw [he] at hc
        simp only [Bool.and_eq_true] at hc
        simp only [lk] at h
        split at h
        · rename_i e; subst e; cases h; rw [he, hc.1]
        · exact ih hc.2 h
      · rename_i hne
        refine ih ?_ h
        split at hc
        · rename_i c v' he; exact absurd he (hne c v')
        · exact hc
    | const v => exact ih (by simpa [peelC] using hc) (by simpa [peelE] using h)
    | func f => exact ih (by simpa [peelC] using hc) (by simpa [peelE] using h)
    | global g => exact ih (by simpa [peelC] using hc) (by simpa [peelE] using h)

theorem lk_app {α : Type} : ∀ (l l' : List (Nat × α)) (i : Nat), lk (l ++ l') i = match lk l i with | some v => some v | none => lk l' i
  | [], _, _ => rfl
  | (j, v) :: l, l', i => by
    simp only [List.cons_append, lk]
    split
    · rfl
    · exact lk_app l l' i

theorem RepM.peel (h : RepM w0 T0 H s a w m) {l : List Operand} (hc : peelC s l = true) : RepM w0 T0 H (Fv.peel s l) a w m :=
  { size := h.size, nodef := h.nodef, below := h.below, held := h.held, rows := h.rows, sep := h.sep,
    env := by
      intro r v hv
      have hv' : lk (peelE s l ++ s.env) r = some v := hv
      rw [lk_app] at hv'
      cases hq : lk (peelE s l) r with
      | none => rw [hq] at hv'; exact h.env r v hv'
      | some v' =>
        rw [hq] at hv'; cases hv'
        have := peelC_lk hc hq
        simp only [S.get] at this
        cases hl : lk s.env r with
        | none => rw [hl] at this; cases this
        | some y =>
          rw [hl] at this
          cases this
          have := h.env r _ hl
          cases this with
          | opt _ _ _ _ hx _ => exact hx rfl }
theorem RepM.unpeel {l : List Operand} (hpc : peelC s l = true) (h : RepM w0 T0 H (Fv.peel s l) a w m) : RepM w0 T0 H s a w m :=
  { size := h.size, nodef := h.nodef, below := h.below, held := h.held, rows := h.rows, sep := h.sep,
    env := by
      intro r v hv
      cases hq : lk (peelE s l) r with
      | none => exact h.env r v (by show lk (peelE s l ++ s.env) r = some v; rw [lk_app, hq]; exact hv)
      | some v' =>
        have hx : Rv (ctxOf T0 w0.heap.size m s w) v' (a.tmps.getD r undef) := h.env r v' (by show lk (peelE s l ++ s.env) r = some v'; rw [lk_app, hq])
        have hc := peelC_lk hpc hq
        simp only [S.get, hv] at hc
        subst hc
        exact .opt _ _ _ hx.ids (fun _ => hx) (fun e => by cases e) }
end
end Go.Fv
