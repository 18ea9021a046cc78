/-
  A part of the proof of the claim: walks over the program's functions and the plain laws that these need. No condition of its own.
-/
import Derived.Test.YtmdaiceacfgkpaaGreatDoorFvPart4
import Derived.Test.YtmdaiceacfgkpaaGreatDoorFvPart5
import Derived.Orders
import Derived.Still
/-
  Operations that are carried out only under a condition: what they leave, said under that condition.
-/
namespace Go.Fv
set_option linter.unusedSectionVars false
open Go.RowKit
set_option linter.unusedVariables false
set_option linter.unusedSimpArgs false
set_option linter.unnecessarySimpa false

/-- What an operand is, and under which condition. -/
def pkC (s : S) : Operand → Bool
  | .tmp t => match s.get t with | .opt c _ => c | _ => true
  | _ => true
def pkV (s : S) : Operand → AV
  | .tmp t => match s.get t with | .opt _ v => v | v => v
  | x => s.ev x
/-- The temporaries among these operands that are known under a condition: as if it held. -/
def peelE (s : S) : List Operand → List (Nat × AV)
  | [] => []
  | .tmp t :: l => match s.get t with | .opt _ v => (t, v) :: peelE s l | _ => peelE s l
  | _ :: l => peelE s l
def peelC (s : S) : List Operand → Bool
  | [] => true
  | .tmp t :: l => match s.get t with | .opt c _ => c && peelC s l | _ => peelC s l
  | _ :: l => peelC s l
def peel (s : S) (l : List Operand) : S := { s with env := peelE s l ++ s.env }

def gOps : Op → List Operand
  | .move x => [x]
  | .assign x => [x]
  | .binOp _ _ x y _ => [x, y]
  | .unOp _ _ x => [x]
  | .index _ x i => [x, i]
  | .indexAddr _ x i => [x, i]
  | .lookup _ x i _ => [x, i]
  | .load _ x => [x]
  | .field _ x _ => [x]
  | .fieldAddr _ x _ => [x]
  | .nilCheck x => [x]
  | .convert _ _ x => [x]
  | .extract x _ => [x]
  | .call c => c.args.toList
  | .slice _ x lo hi mx => x :: (lo.toList ++ (hi.toList ++ mx.toList))
  | _ => []
def gBin (op : BinOp) (x y : AV) : Option AV :=
  match x, y with
  | .int k a, .int _ b => match op with
    | .add => some (.int k (a + b))
    | .sub => some (.int k (a - b))
    | .mul => some (.int k (a * b))
    | .quo => some (.int k (a.tdiv b))
    | .rem => some (.int k (a.tmod b))
    | .and => some (.int k (bitsI .and k a b))
    | .or => some (.int k (bitsI .or k a b))
    | .xor => some (.int k (bitsI .xor k a b))
    | .andNot => some (.int k (bitsI .andNot k a b))
    | .shl => some (.int k (shlI k a b))
    | .shr => some (.int k (shrI k a b))
    | .eql => some (.bool (decide (a = b)))
    | .neq => some (.bool (decide (¬ a = b)))
    | .lss => some (.bool (decide (a < b)))
    | .leq => some (.bool (decide (a ≤ b)))
    | .gtr => some (.bool (decide (b < a)))
    | .geq => some (.bool (decide (b ≤ a)))
  | .str a, .str b => match op with
    | .add => some (.str (a ++ b))
    | .eql => some (.bool (decide (a = b)))
    | .neq => some (.bool (decide (¬ a = b)))
    | .lss => some (.bool (Op.bytesLess a b))
    | .leq => some (.bool (Op.bytesLess a b || decide (a = b)))
    | .gtr => some (.bool (!(Op.bytesLess a b || decide (a = b))))
    | .geq => some (.bool (!Op.bytesLess a b))
    | _ => none
  | .bool a, .bool b => match op with
    | .eql => some (.bool (decide (a = b)))
    | .neq => some (.bool (decide (¬ a = b)))
    | _ => none
  | .agg a, .agg b => match op with
    | .eql => some (.bool (eqB a b))
    | .neq => some (.bool (!eqB a b))
    | _ => none
  | _, _ => none
def gLen (s : S) : AV → Option AV
  | .str l => some (.int .i64 l.length)
  | .ro r => some (.int .i64 r.len)
  | .own i => match lk s.rows i with
    | some (.row _ r) => some (.int .i64 r.len)
    | _ => none
  | .nilS => some (.int .i64 0)
  | _ => none
def gHead : List AV → Option AV
  | x :: _ => some x
  | [] => none
def gCell (P : Program) (t : TypeId) (cs : List AV) : Option AV :=
  match P.underlying t with
  | some d => bif aggB d then some (.agg (cs.take (P.cellsOf t))) else gHead cs
  | none => none
def gMM (s : S) (m : Bool) (x y : Operand) : Option AV := match s.ev x, s.ev y with
  | .int k a, .int _ b => some (.int k (if m then max a b else min a b))
  | _, _ => none
def gLook (P : Program) (t : TypeId) (m : Option (List AV × List AV)) (k : AV) (ok : Bool) : Option AV :=
  match P.underlying t with
  | some (.map _ et) => match zeroOf P et with
    | some z => match m with
      | some (ks, vs) => match z with
        | .bool _ => some (bif ok then .tup [.bool (getB ks vs k), .bool (keyIdx ks k).isSome] else .bool (getB ks vs k))
        | .int q _ => some (bif ok then .tup [.int q (getI ks vs k), .bool (keyIdx ks k).isSome] else .int q (getI ks vs k))
        | .string _ => some (bif ok then .tup [.str (getS ks vs k), .bool (keyIdx ks k).isSome] else .str (getS ks vs k))
        | z => some (bif ok then .tup [getO ks vs k (ofV z), .bool (keyIdx ks k).isSome] else getO ks vs k (ofV z))
      | none => none
    | none => none
  | _ => none
/-- What the operation gives, if it is one that changes nothing. -/
def gVal (P : Program) (s : S) : Op → Option AV
  | .move (.const (.slice _ _ _)) => none
  | .assign (.const (.slice _ _ _)) => none
  | .move x => some (s.ev x)
  | .assign x => some (s.ev x)
  | .binOp op _ x y _ => gBin op (s.ev x) (s.ev y)
  | .unOp op _ x => match op, s.ev x with
    | .not, .bool b => some (.bool (!b))
    | _, _ => none
  | .call c => match c.callee, c.args.toList with
    | .builtin .len, [x] => gLen s (s.ev x)
    | .builtin .min, [x, y] => gMM s false x y
    | .builtin .max, [x, y] => gMM s true x y
    | _, _ => none
  | .index _ x i => match s.ev x, s.ev i with
    | .str l, .int _ n => some (.int .u8 (l.getD n.toNat 0).toNat)
    | _, _ => none
  | .indexAddr t x i => match s.ev x, s.ev i with
    | .ro r, .int _ n => some (.cell (elemA r n.toNat))
    | .own j, .int _ n => match lk s.rows j with
      | some (.row _ r) => some (.elt j r.sz n.toNat 0)
      | _ => none
    | .ptr j off, .int _ n => match P.underlying t with
      | some (.array _ e) => some (.ptr j (off + n.toNat * P.cellsOf e))
      | _ => none
    | .cell cs, .int _ n => match P.underlying t with
      | some (.array _ e) => some (.cell (cs.drop (n.toNat * P.cellsOf e)))
      | _ => none
    | .elt j sz idx off, .int _ n => match P.underlying t with
      | some (.array _ e) => some (.elt j sz idx (off + n.toNat * P.cellsOf e))
      | _ => none
    | _, _ => none
  | .nilCheck x => some (s.ev x)
  | .lookup t x i ok => gLook P t (mapOf s (s.ev x)) (s.ev i) ok
  | .convert _ b x => match P.underlying b, s.ev x with
    | some (.int k), .int _ n => some (.int k n)
    | _, _ => none
  | .load t x => match s.ev x with
    | .cell cs => gCell P t cs
    | .ptr i off => match lk s.rows i with
      | some (.box _ cs) => gCell P t (cs.drop off)
      | _ => none
    | .elt i _ idx off => match lk s.rows i with
      | some (.row _ r) => gCell P t ((elemA r idx).drop off)
      | _ => none
    | _ => none
  | .field t x k => match P.underlying t, s.ev x with
    | some (.struct fs), .agg cs => match fs[k]? with
      | some f => gCell P f.type (cs.drop f.offset)
      | none => none
    | _, _ => none
  | .fieldAddr t x k => match P.underlying t with
    | some (.struct fs) => match fs[k]? with
      | some f => match s.ev x with
        | .cell cs => some (.cell (cs.drop f.offset))
        | .ptr i off => some (.ptr i (off + f.offset))
        | .elt i sz idx off => some (.elt i sz idx (off + f.offset))
        | _ => none
      | none => none
    | _ => none
  | .extract x i => match s.ev x with
    | .tup l => l[i]?
    | _ => none
  | .slice _ x lo hi _ => match s.ev x with
    | .str l => match bnd s lo 0, bnd s hi l.length with
      | some p, some q => some (.str ((l.drop p.toNat).take (q.toNat - p.toNat)))
      | _, _ => none
    | .ro r => match bnd s lo 0, bnd s hi r.len with
      | some p, some q => some (.ro (subRow r p.toNat q.toNat))
      | _, _ => none
    | _ => none
  | _ => none
/-- A choice between two truths, each perhaps known under a condition only. -/
def gPick (s : S) : Op → Option (Prop × Bool)
  | .pick c x y => match pkV s c, pkV s x, pkV s y with
    | .bool b, .bool p, .bool q => some (pkC s c = true ∧ (b = true → pkC s x = true) ∧ (b = false → pkC s y = true), cond b p q)
    | _, _, _ => none
  | _ => none

section
variable {w0 w : World} {T0 : Bs} {H : List (AV × Value)} {s : S} {a : Act} {m : Nat → Value}

theorem pk_rv (h : RepM w0 T0 H s a w m) {x : Operand} (hx : opndOk x) (hc : pkC s x = true) : Rv (ctxOf T0 w0.heap.size m s w) (pkV s x) (a.eval x) := by
  cases x with
  | tmp t =>
    simp only [pkC, pkV, S.get, Act.eval] at *
    cases hl : lk s.env t with
    | none => exact .dead _
    | some v =>
      have hv := h.env t v hl
      rw [hl] at hc
      cases v <;> try exact hv
      cases hv with
      | opt _ _ _ hb hv _ => exact hv hc
  | const v => exact h.ev _ hx
  | func f => exact h.ev _ hx
  | global g => exact h.ev _ hx

theorem peelC_lk {l : List Operand} {r : Nat} {v : AV} (hc : peelC s l = true) (h : lk (peelE s l) r = some v) : s.get r = .opt true v := by
  induction l with
  | nil => simp [peelE, lk] at h
  | cons x l ih =>
    cases x with
    | tmp t =>
      simp only [peelE] at h
      simp only [peelC] at hc
      split at h
      · rename_i c v' he
        rw [he] at hc
        simp only [Bool.and_eq_true] at hc
        simp only [lk] at h
        split at h
        · rename_i e; subst e; cases h; rw [he, hc.1]
        · exact ih hc.2 h
      · rename_i hne
        refine ih ?_ h
        split at hc
        · rename_i c v' he; exact absurd he (hne c v')
        · exact hc
    | const v => exact ih (by simpa [peelC] using hc) (by simpa [peelE] using h)
    | func f => exact ih (by simpa [peelC] using hc) (by simpa [peelE] using h)
    | global g => exact ih (by simpa [peelC] using hc) (by simpa [peelE] using h)

theorem lk_app {α : Type} : ∀ (l l' : List (Nat × α)) (i : Nat), lk (l ++ l') i = match lk l i with | some v => some v | none => lk l' i
  | [], _, _ => rfl
  | (j, v) :: l, l', i => by
    simp only [List.cons_append, lk]
    split
    · rfl
    · exact lk_app l l' i

theorem RepM.peel (h : RepM w0 T0 H s a w m) {l : List Operand} (hc : peelC s l = true) : RepM w0 T0 H (Fv.peel s l) a w m :=
  { size := h.size, nodef := h.nodef, below := h.below, held := h.held, rows := h.rows, sep := h.sep,
    env := by
      intro r v hv
      have hv' : lk (peelE s l ++ s.env) r = some v := hv
      rw [lk_app] at hv'
      cases hq : lk (peelE s l) r with
      | none => rw [hq] at hv'; exact h.env r v hv'
      | some v' =>
        rw [hq] at hv'; cases hv'
        have := peelC_lk hc hq
        simp only [S.get] at this
        cases hl : lk s.env r with
        | none => rw [hl] at this; cases this
        | some y =>
          rw [hl] at this
          cases this
          have := h.env r _ hl
          cases this with
          | opt _ _ _ _ hx _ => exact hx rfl }
theorem RepM.unpeel {l : List Operand} (hpc : peelC s l = true) (h : RepM w0 T0 H (Fv.peel s l) a w m) : RepM w0 T0 H s a w m :=
  { size := h.size, nodef := h.nodef, below := h.below, held := h.held, rows := h.rows, sep := h.sep,
    env := by
      intro r v hv
      cases hq : lk (peelE s l) r with
      | none => exact h.env r v (by show lk (peelE s l ++ s.env) r = some v; rw [lk_app, hq]; exact hv)
      | some v' =>
        have hx : Rv (ctxOf T0 w0.heap.size m s w) v' (a.tmps.getD r undef) := h.env r v' (by show lk (peelE s l ++ s.env) r = some v'; rw [lk_app, hq])
        have hc := peelC_lk hpc hq
        simp only [S.get, hv] at hc
        subst hc
        exact .opt _ _ _ hx.ids (fun _ => hx) (fun e => by cases e) }
end
end Go.Fv

/-
  Package-level variables of an integer type: each holds an integer, which one is not told.
-/
namespace Go.Fv
set_option linter.unusedSectionVars false
open Go.RowKit
set_option linter.unusedVariables false
set_option linter.unusedSimpArgs false

def intGl (P : Program) (g : Nat) : Option IntKind := match P.globals[g]? with
  | some gl => match P.underlying gl.type with
    | some (.int k) => some k
    | _ => none
  | none => none
def GlOk (P : Program) (w : World) : Prop := ∀ (g : Nat) (k : IntKind), intGl P g = some k → ∃ (n : Int) (t : TypeId), InK k n ∧ w.heap[g]? = some (.cells #[.int k n] t (0, 0))
class GlB (P : Program) (w0 : World) (T0 : Bs) : Prop where
  ok : GlOk P w0
  ng : ∀ (g : Nat) (k : IntKind), intGl P g = some k → ¬ (T0.g g ∧ T0.a g)
theorem GlOk.later {P : Program} {w0 w : World} (g0 : Nat → Prop) (h : GlOk P w0) (hb : BelowG g0 w0 w) (hn : ∀ (g : Nat) (k : IntKind), intGl P g = some k → ¬ g0 g) : GlOk P w := by
  intro g k hg
  obtain ⟨n, t, hk, hh⟩ := h g k hg
  have hlt := (Array.getElem?_eq_some_iff.1 hh).1
  exact ⟨n, t, hk, by rw [hb.block g hlt (hn g k hg)]; exact hh⟩
section
variable {P : Program} {w0 : World} {T0 : Bs} {o : Oper} {s : S} {K : AV → S → Prop}
theorem GlB.at [h : GlB P w0 T0] {H : List (AV × Value)} {s : S} {a : Act} {w : World} {m : Nat → Value} (hm : RepM w0 T0 H s a w m) : GlOk P w := h.ok.later _ hm.below h.ng

/-- Any integer of a kind: simp does not look inside. -/
class BrA where
  k : Int → Prop
def AnyI (k : IntKind) [K : BrA] : Prop := ∀ n, InK k n → K.k n
theorem AnyI.intro {k : IntKind} {K : Int → Prop} (h : ∀ n, InK k n → K n) : @AnyI k ⟨K⟩ := h
theorem AnyI.i64 {K : Int → Prop} (h : ∀ n, (-9223372036854775808 ≤ n ∧ n ≤ 9223372036854775807) → K n) : @AnyI .i64 ⟨K⟩ := fun n hn => h n (InK_i64.1 hn)
def vcGlob (P : Program) (t : TypeId) (g : Nat) (s : S) (K : AV → S → Prop) : Prop :=
  match intGl P g, P.underlying t with
  | some k, some (.int k') => Chk (k = k' ∧ P.cellsOf t = 1) (@AnyI k ⟨fun n => K (.int k n) s⟩)
  | _, _ => False
theorem vcGlob_still [hG : GlB P w0 T0] {t : TypeId} {g : Nat} (ho : o.op = .load t (.global g)) (h : vcGlob P t g s K) : StillSem P w0 T0 o s K := by
  unfold vcGlob at h
  intro H a w m hm
  split at h
  · rename_i k k' hk ht
    obtain ⟨⟨rfl, hc⟩, h⟩ := h
    obtain ⟨n, t', hn, hh⟩ := (GlB.at (P := P) hm) g k hk
    have hl : ldCells P t [.int k n] (fun v => v = .int k n) := by
      unfold ldCells
      rw [ht]
      simp [aggB, knowInt, Asm]
    have hv : RvL (ctxOf T0 w0.heap.size m s w) [.int k n] [.int k n] := .cons _ _ _ _ (.int k n hn) rfl .nil
    obtain ⟨r, v, hr, hrun, hrv⟩ := ldCells_sound (c := ctxOf T0 w0.heap.size m s w) (a := ⟨g, 0, none⟩) hl hv (fun j u hu => by
      have := cell_at hh (j := j) (u := u) (by simpa using hu)
      exact this)
    subst hr
    refine ⟨_, v, h n hn, ?_, hrv⟩
    have hr' : (loadVar t ⟨g, 0, none⟩).run P w = .ok v w := hrun
    unfold execOp; rw [ho]
    simp [Act.eval, Instr.loadAt, Instr.sureAddr, hr']
  · exact h.elim
end
end Go.Fv

/-
  append to a nil slice that stands in a slot.
-/
namespace Go.Fv
set_option linter.unusedSectionVars false
open Go.RowKit
set_option linter.unusedVariables false
set_option linter.unusedSimpArgs false
set_option linter.unnecessarySimpa false
section
variable {P : Program} {w0 : World} {T0 : Bs} {o : Oper} {s : S} {K : AV → S → Prop}

def vcAppendN (P : Program) (t t2 : TypeId) (x y : Operand) (s : S) (K : AV → S → Prop) : Prop :=
  match x with
  | .tmp r => match s.get r with
    | .nilS => match P.underlying t with
      | some (.slice e) => match zeroOf P e with
        | some z => Chk (ElemZ P e z) (vcAppend P t t2 (.tmp r) y ((s.add (.row e (zrow z 0))).set r (.own s.next)) K)
        | none => False
      | _ => False
    | _ => vcAppend P t t2 (.tmp r) y s K
  | x => vcAppend P t t2 x y s K

theorem RepM.know0 {H : List (AV × Value)} {s : S} {a : Act} {w : World} {m : Nat → Value} (h : RepM w0 T0 H s a w m) {r : Nat} {x : AV} (hx : Rv (ctxOf T0 w0.heap.size m s w) x (a.tmps.getD r undef)) : RepM w0 T0 H (s.set r x) a w m :=
  { size := h.size, nodef := h.nodef, below := h.below, held := h.held, rows := h.rows, sep := h.sep,
    env := by
      intro q y hy
      have hy' : (if r = q then some x else lk s.env q) = some y := hy
      split at hy'
      · rename_i e; subst e; cases hy'; exact hx
      · exact h.env q y hy' }

theorem vcAppendN_sound {t t2 : TypeId} {x y : Operand} (ho : o.op = .call { callee := .builtin .append, args := #[x, y], argTypes := #[t, t2] }) (hx : opndOk x) (h : vcAppendN P t t2 x y s K) : OpSem P w0 T0 o s K := by
  unfold vcAppendN at h
  split at h
  · rename_i r
    split at h
    · rename_i hr
      split at h
      · rename_i e he
        split at h
        · rename_i z hz
          obtain ⟨hez, h⟩ := h
          intro H a w next Q ⟨m, hm⟩ hn
          have hl : lk s.env r = some .nilS := by
            simp only [S.get] at hr
            cases hq : lk s.env r with
            | none => rw [hq] at hr; cases hr
            | some y => rw [hq] at hr; exact congrArg some hr
          have hv : a.tmps.getD r undef = .slice none 0 0 := by
            have := hm.env r _ hl
            generalize a.tmps.getD r undef = v at this
            cases this; rfl
          have h1 := new_nil hm hez
          have h2 := h1.unhold.know0 (r := r) (x := .own s.next) (by rw [hv]; exact h1.held _ (.head _))
          exact vcAppend_sound ho hx h H a w next Q ⟨_, h2⟩ hn
        · exact h.elim
      · exact h.elim
    · exact vcAppend_sound ho hx h
  · exact vcAppend_sound ho hx h
end
end Go.Fv

/-
  Regions, code, loops, calls, contracts.
-/
namespace Go.Fv
set_option linter.unusedSectionVars false
open Go.RowKit
set_option linter.unusedVariables false
set_option linter.unusedSimpArgs false
set_option linter.unnecessarySimpa false

def Enter (P : Program) (f : Nat) : Prop := ∃ fn, P.funcs[f]? = some fn ∧ fn.body.isNone = false ∧ (fn.name == "runtime.NumGoroutine") = false

class BrQ where
  q : Exit → S → Prop
class BrK where
  k : AV → S → Prop
class BrS where
  k : S → Prop
/-- A call of function f at these arguments: 'K' of its result and the state behind it. -/
def VcCall (P : Program) (w0 : World) (T0 : Bs) (f : Nat) (args : List AV) (s : S) [K : BrK] : Prop :=
  Enter P f ∧ ∀ (H : List (AV × Value)) (a : Act) (w : World) (m : Nat → Value) (vals : List Value), RepM w0 T0 H s a w m → RvT (ctxOf T0 w0.heap.size m s w) args vals →
    Calls P f vals.toArray w fun e w' => ∃ v, e = .returned v ∧ ∃ r s', K.k r s' ∧ Rep w0 T0 ((r, v) :: H) s' a w'

/-- What is held besides has no names from 'b0' on. -/
def HeldB (b0 : Nat) (H : List (AV × Value)) : Prop := ∀ p, p ∈ H → below b0 p.1 = true
def VcLoop (P : Program) (w0 : World) (T0 : Bs) (b0 : Nat) (c : Code) (s : S) [Q : BrQ] : Prop :=
  ∀ (H : List (AV × Value)) (a : Act) (w : World), HeldB b0 H → Rep w0 T0 H s a w → (Code.loop c).wp P (fun e a' w' => ∃ s', Q.q e s' ∧ Rep w0 T0 H s' a' w') a w
def VcDraw (P : Program) (w0 : World) (T0 : Bs) (b0 : Nat) (id : Nat) (ops : Array Oper) (s : S) [Q : BrS] : Prop :=
  ∀ (H : List (AV × Value)) (a : Act) (w : World), HeldB b0 H → Rep w0 T0 H s a w → (Code.region id ops true).wp P (fun e a' w' => e = .normal ∧ ∃ s', Q.k s' ∧ Rep w0 T0 H s' a' w') a w
@[congr] theorem VcCall_congr {P : Program} {w0 : World} {T0 : Bs} {f : Nat} {args args' : List AV} {s s' : S} {K : BrK} (h : args = args') (h2 : s = s') : @VcCall P w0 T0 f args s K = @VcCall P w0 T0 f args' s' K := by rw [h, h2]
@[congr] theorem VcLoop_congr {P : Program} {w0 : World} {T0 : Bs} {b0 : Nat} {c : Code} {s s' : S} {Q : BrQ} (h : s = s') : @VcLoop P w0 T0 b0 c s Q = @VcLoop P w0 T0 b0 c s' Q := by rw [h]
@[congr] theorem VcDraw_congr {P : Program} {w0 : World} {T0 : Bs} {b0 id : Nat} {ops : Array Oper} {s s' : S} {Q : BrS} (h : s = s') : @VcDraw P w0 T0 b0 id ops s Q = @VcDraw P w0 T0 b0 id ops s' Q := by rw [h]

def vcCallOp (P : Program) (w0 : World) (T0 : Bs) (c : Call) (s : S) (K : AV → S → Prop) : Prop :=
  match c.callee with
  | .builtin .append => match c.args.toList, c.argTypes.toList with
    | [x, y], [t, t2] => Chk (opndOk x) (vcAppendN P t t2 x y s K)
    | _, _ => False
  | .builtin .len => match c.args.toList, c.argTypes.toList with
    | [x], [t] => Chk (opndOk x) (vcLen P t x s K)
    | _, _ => False
  | .builtin .unsafeSliceData => match c.args.toList, c.argTypes.toList with
    | [x], [_] => Chk (opndOk x) (vcSlData x s K)
    | _, _ => False
  | .builtin .unsafeString => match c.args.toList, c.argTypes.toList with
    | [x, n], [pt, _] => Chk (opndOk x ∧ opndOk n) (vcUStr P pt x n s K)
    | _, _ => False
  | .builtin .min => Chk (∀ x, x ∈ c.args.toList → opndOk x) (vcMM false (evs s c.args.toList) (fun r => K r s))
  | .builtin .max => Chk (∀ x, x ∈ c.args.toList → opndOk x) (vcMM true (evs s c.args.toList) (fun r => K r s))
  | .value g => match s.ev g with
    | .fn f caps => Chk (opndOk g ∧ ∀ x, x ∈ c.args.toList → opndOk x) (@VcCall P w0 T0 f (evs s c.args.toList ++ caps) s ⟨K⟩)
    | _ => False
  | _ => False

def vcOp (P : Program) (w0 : World) (T0 : Bs) (o : Oper) (s : S) (K : AV → S → Prop) : Prop :=
  match o.op with
  | .move x => vcMove P o.type x s K
  | .assign x => vcMove P o.type x s K
  | .pick c x y => Chk (opndOk c) (vcPick c x y s K)
  | .extract x i => Chk (opndOk x) (vcExtract x i s K)
  | .makeFunc fn first caps => vcMakeFunc fn first caps s K
  | .box e x => vcBox e x s K
  | .alloc e => vcAlloc P e s K
  | .load t x => match x with
    | .global g => vcGlob P t g s K
    | x => Chk (opndOk x) (vcLoad P t x s K)
  | .store t x v => Chk (opndOk x) (vcStore P t x v s K)
  | .nilCheck x => Chk (opndOk x) (vcNil x s K)
  | .fieldAddr t x k => Chk (opndOk x) (vcFieldAddr P t x k s K)
  | .indexAddr t x i => Chk (opndOk x ∧ opndOk i) (vcIndexAddr P t x i s K)
  | .makeSlice t l c => Chk (opndOk l ∧ opndOk c) (vcMake P t l c s K)
  | .binOp op t x y _ => Chk (opndOk x ∧ opndOk y) (vcBinX P op t (s.ev x) (s.ev y) (fun r => K r s))
  | .call c => vcCallOp P w0 T0 c s K
  | .unOp op _ x => Chk (opndOk x) (vcUn op x s K)
  | .convert a b x => Chk (opndOk x) (vcConvX P a b x s K)
  | .index t x i => Chk (opndOk x ∧ opndOk i) (vcIndex P t x i s K)
  | .field t x k => Chk (opndOk x) (vcField P t x k s K)
  | .slice t x lo hi mx => Chk (opndOk x) (vcSlice P t x lo hi mx s K)
  | .buildSlice t len parts => vcBuildSlice P t len parts s K
  | .build t parts => vcBuild P t parts s K
  | .lookup t x i ok => vcLookup P t x i ok s K
  | .makeMap t r => vcMakeMap P t r s K
  | .mapUpdate t x k v => vcMapUpd P t x k v s K
  | .mapEntry t x k => vcMapEnt P t x k s K
  | .entryStore _ x st v => vcEntStore x st v s K
  | .range t x => vcRange P t x s K
  | .next x str => vcNext x str s K
  | .entry x => vcEntry x s K
  | _ => False

section
variable {P : Program} {w0 : World} {T0 : Bs} {s : S} [hG : GlB P w0 T0]

theorem vcCallOp_sound {o : Oper} {K : AV → S → Prop} {c : Call} (ho : o.op = .call c) (h : vcCallOp P w0 T0 c s K) : OpSem P w0 T0 o s K := by
  obtain ⟨callee, args, argTypes⟩ := c
  unfold vcCallOp at h
  cases callee with
  | builtin b =>
    cases b <;> try (exact h.elim)
    case append =>
      dsimp only at h
      split at h
      · rename_i x y t t2 e1 e2
        obtain ⟨hx, h⟩ := h
        have e1' : args = #[x, y] := by apply Array.ext'; simpa using e1
        have e2' : argTypes = #[t, t2] := by apply Array.ext'; simpa using e2
        subst e1' e2'
        exact vcAppendN_sound ho hx h
      · exact h.elim
    case len =>
      dsimp only at h
      split at h
      · rename_i x t e1 e2
        obtain ⟨hx, h⟩ := h
        have e1' : args = #[x] := by apply Array.ext'; simpa using e1
        have e2' : argTypes = #[t] := by apply Array.ext'; simpa using e2
        subst e1' e2'
        exact vcLen_sound ho hx h
      · exact h.elim
    case unsafeSliceData =>
      dsimp only at h
      split at h
      · rename_i x t e1 e2
        obtain ⟨hx, h⟩ := h
        have e1' : args = #[x] := by apply Array.ext'; simpa using e1
        have e2' : argTypes = #[t] := by apply Array.ext'; simpa using e2
        subst e1' e2'
        exact vcSlData_sound ho hx h
      · exact h.elim
    case unsafeString =>
      dsimp only at h
      split at h
      · rename_i x n pt it e1 e2
        obtain ⟨⟨hx, hn⟩, h⟩ := h
        have e1' : args = #[x, n] := by apply Array.ext'; simpa using e1
        have e2' : argTypes = #[pt, it] := by apply Array.ext'; simpa using e2
        subst e1' e2'
        exact vcUStr_sound ho hx hn h
      · exact h.elim
    case min => exact vcMM_sound (isMax := false) ho h.1 h.2
    case max => exact vcMM_sound (isMax := true) ho h.1 h.2
  | invoke r mth => exact h.elim
  | value g =>
    dsimp only at h
    intro H a w next Q ⟨m, hm⟩ hn
    cases hg : s.ev g with
    | fn f caps =>
      rw [hg] at h
      obtain ⟨⟨hog, hoa⟩, ⟨fn, hf, hb, hnm⟩, h⟩ := h
      have rg := hm.ev g hog
      rw [hg] at rg
      generalize hvg : a.eval g = vg at rg
      cases rg with
      | fn _ _ cvals hc =>
        have hargs := (hm.evs hoa).append hc
        have hcalls := h H a w m _ hm hargs
        have hrun : (execOp a.eval o).run P w = .ok (.enter f ((args.toList.map a.eval ++ cvals).toArray)) w := by
          unfold execOp; rw [ho]
          have e : (Array.map a.eval args ++ cvals.toArray) = (args.toList.map a.eval ++ cvals).toArray := by
            apply Array.ext'; simp
          have hnm' : ¬ fn.name = "runtime.NumGoroutine" := by simpa using hnm
          have hb' : ¬ fn.body = none := by intro e; simp [e] at hb
          simp [resolve, hvg, Deferred.ofValue, invoke, callFunc, hf, hb', hnm', e]
        unfold Oper.wp
        rw [hrun]
        refine Calls.mono hcalls ?_
        rintro e w' ⟨v, rfl, r, s', hk, hr⟩
        exact hn r s' v w' hk hr
    | _ => rw [hg] at h; exact h.elim

theorem vcOp_sound {o : Oper} {K : AV → S → Prop} (h : vcOp P w0 T0 o s K) : OpSem P w0 T0 o s K := by
  unfold vcOp at h
  cases ho : o.op <;> rw [ho] at h <;> try (exact h.elim)
  case move x => exact vcMove_sound (.inl ho) h
  case assign x => exact vcMove_sound (.inr ho) h
  case pick c x y => exact vcPick_sound ho h.1 h.2
  case extract x i => exact vcExtract_sound ho h.1 h.2
  case makeFunc fn first caps => exact vcMakeFunc_sound ho h
  case box e x => exact vcBox_sound ho h
  case alloc e => exact vcAlloc_sound ho h
  case load t x =>
    cases x with
    | global g => exact (vcGlob_still ho h).op
    | _ => exact vcLoad_sound ho h.1 h.2
  case store t x v => exact vcStore_sound ho h.1 h.2
  case nilCheck x => exact vcNil_sound ho h.1 h.2
  case fieldAddr t x k => exact vcFieldAddr_sound ho h.1 h.2
  case indexAddr t x i => exact vcIndexAddr_sound ho h.1.1 h.1.2 h.2
  case makeSlice t l c => exact vcMake_sound ho h.1.1 h.1.2 h.2
  case binOp op t x y t' => exact vcBinX_sound ho h.1.1 h.1.2 h.2
  case call c => exact vcCallOp_sound ho h
  case unOp op t x => exact vcUn_sound ho h.1 h.2
  case convert t t' x => exact vcConvX_sound ho h.1 h.2
  case index t x i => exact vcIndex_sound ho h.1.1 h.1.2 h.2
  case field t x k => exact vcField_sound ho h.1 h.2
  case slice t x lo hi mx => exact vcSlice_sound ho h.1 h.2
  case buildSlice t len parts => exact vcBuildSlice_sound ho h
  case build t parts => exact vcBuild_sound ho h
  case lookup t x i ok => exact vcLookup_sound ho h
  case makeMap t r => exact vcMakeMap_sound ho h
  case mapUpdate t x k v => exact vcMapUpd_sound ho h
  case mapEntry t x k => exact vcMapEnt_sound ho h
  case entryStore t x st v => exact vcEntStore_sound ho h
  case range t x => exact vcRange_sound ho h
  case next x str => exact vcNext_sound ho h
  case entry x => exact vcEntry_sound ho h
end

def vcPut (d : Option Nat) (v : AV) (s : S) (Q : S → Prop) : Prop :=
  match d with
  | none => Q s
  | some d => if d < s.n then Q (s.set d v) else False

def pickOk : Op → Prop
  | .pick c x y => opndOk c ∧ opndOk x ∧ opndOk y
  | _ => False
def vcWhen (P : Program) (w0 : World) (T0 : Bs) (o : Oper) (c : Bool) (s s1 s2 : S) (k : S → Prop) : Prop :=
  match gPick s o.op with
  | some (pre, b) => Chk (c = true → pre ∧ pickOk o.op) (vcPut o.dst (.opt c (.bool b)) s k)
  | none => match gVal P (peel s (gOps o.op)) o.op with
    | some v => Chk (Fv.below s.next v = true) (Chk (c = true → peelC s (gOps o.op) = true ∧ vcOp P w0 T0 o (peel s (gOps o.op)) (fun r s' => r = v ∧ s' = peel s (gOps o.op))) (vcPut o.dst (.opt c v) s k))
    | none => @Ite c ⟨Chk (peelC s1 (gOps o.op) = true) (vcOp P w0 T0 o (peel s1 (gOps o.op)) (fun v s' => vcPut o.dst v s' k))⟩ ⟨vcPut o.dst (.opt false (.bool false)) s2 k⟩

def vcGo (P : Program) (w0 : World) (T0 : Bs) (ops : Array Oper) (o : Oper) (s : S) (k : S → Prop) : Prop :=
  match o.guard with
  | none => match gPick s o.op with
    | some (pre, b) => Chk (pre ∧ pickOk o.op) (vcPut o.dst (.bool b) s k)
    | none => vcOp P w0 T0 o s (fun v s' => vcPut o.dst v s' k)
  | some (j, want) => match (ops[j]?).bind (·.dst) with
    | some r => match s.get r with
      | .bool b => vcWhen P w0 T0 o (bif want then b else !b) s (s.set r (.bool want)) (s.set r (.bool (!want))) k
      | .opt c (.bool b) => vcWhen P w0 T0 o (c && bif want then b else !b) s s s k
      | _ => False
    | none => False

def vcOps (P : Program) (w0 : World) (T0 : Bs) (ops : Array Oper) : List Oper → S → (S → Prop) → Prop
  | [], s, Q => Q s
  | o :: rest, s, Q => vcGo P w0 T0 ops o s (fun s' => vcOps P w0 T0 ops rest s' Q)

section
variable {P : Program} {w0 : World} {T0 : Bs} {H : List (AV × Value)} [hG : GlB P w0 T0]

theorem Rep.put {s : S} {a : Act} {w : World} {r : AV} {v : Value} {d : Option Nat} {Q : S → Prop} (h : Rep w0 T0 ((r, v) :: H) s a w) (hq : vcPut d r s Q) : ∃ s', Q s' ∧ Rep w0 T0 H s' (a.put d v) w := by
  obtain ⟨m, hm⟩ := h
  cases d with
  | none => exact ⟨s, hq, m, hm.unhold⟩
  | some d =>
    simp only [vcPut] at hq
    split at hq
    · rename_i hd; exact ⟨_, hq, m, hm.unhold.putd (hm.held _ (.head _)) hd⟩
    · exact hq.elim

theorem RepM.know {s : S} {a : Act} {w : World} {m : Nat → Value} (h : RepM w0 T0 H s a w m) {r : Nat} {x : AV} (hx : Rv (ctxOf T0 w0.heap.size m s w) x (a.tmps.getD r undef)) : RepM w0 T0 H (s.set r x) a w m :=
  { size := h.size, nodef := h.nodef, below := h.below, held := h.held, rows := h.rows, sep := h.sep,
    env := by
      intro q y hy
      have hy' : (if r = q then some x else lk s.env q) = some y := hy
      split at hy'
      · rename_i e; subst e; cases hy'; exact hx
      · exact h.env q y hy' }

theorem gPick_sound {s : S} {a : Act} {w : World} {o : Oper} {pre : Prop} {b : Bool} (h : gPick s o.op = some (pre, b)) (hp : pre) (hok : pickOk o.op) (hr : Rep w0 T0 H s a w) : (execOp a.eval o).run P w = .ok (.value (.bool b)) w := by
  obtain ⟨m, hm⟩ := hr
  unfold gPick at h
  cases ho : o.op <;> rw [ho] at h hok <;> try (cases h; done)
  rename_i c x y
  obtain ⟨h1, h2, h3⟩ := hok
  dsimp only at h
  split at h
  · rename_i bc p q ec ex ey
    cases h
    obtain ⟨k1, k2, k3⟩ := hp
    have rc := pk_rv hm h1 k1
    rw [ec] at rc
    generalize hvc : a.eval c = vc at rc
    cases rc
    have hrun : (execOp a.eval o).run P w = .ok (.value (if bc then a.eval x else a.eval y)) w := by
      unfold execOp; rw [ho]; simp [hvc, asBool, Sem.run_bind, Result.andThen]
    cases bc with
    | true =>
      have rx := pk_rv hm h2 (k2 rfl)
      rw [ex] at rx
      generalize hvx : a.eval x = vx at rx hrun
      cases rx
      simpa using hrun
    | false =>
      have ry := pk_rv hm h3 (k3 rfl)
      rw [ey] at ry
      generalize hvy : a.eval y = vy at ry hrun
      cases ry
      simpa using hrun
  · cases h

theorem vcWhen_sound {o : Oper} {c : Bool} {s s1 s2 : S} {k : S → Prop} (h : vcWhen P w0 T0 o c s s1 s2 k) {a : Act} {w : World} (hr : Rep w0 T0 H s a w) {W : Bool} (hW : W = c) (hr1 : c = true → Rep w0 T0 H s1 a w) (hr2 : c = false → Rep w0 T0 H s2 a w) {K : Act → World → Prop} {Qc : Exit → Act → World → Prop}
    (hk : ∀ s' a' w', k s' → Rep w0 T0 H s' a' w' → K a' w') : if W = true then o.wp P a w K Qc else K (a.put o.dst undef) w := by
  subst hW
  unfold vcWhen at h
  have skip : W = false → ∀ (v : AV) (s : S), Rep w0 T0 H s a w → (∀ c, Rv c v undef) → vcPut o.dst v s k → K (a.put o.dst undef) w := by
    intro _ v s hr hv hp
    obtain ⟨m, hm⟩ := hr
    obtain ⟨s'', h2, hr2⟩ := Rep.put (v := undef) (⟨m, hm.hold (hv _)⟩ : Rep w0 T0 ((v, undef) :: H) s a w) hp
    exact hk _ _ _ h2 hr2
  split at h
  · rename_i pre b hg
    obtain ⟨hpre, hput⟩ := h
    cases W with
    | true =>
      simp only [if_true]
      obtain ⟨hp, hok⟩ := hpre rfl
      have hrun := gPick_sound (P := P) hg hp hok hr
      unfold Oper.wp
      rw [hrun]
      obtain ⟨m, hm⟩ := hr
      obtain ⟨s'', h2, hr2⟩ := Rep.put (v := .bool b) (⟨m, hm.hold (.opt true (.bool b) (.bool b) rfl (fun _ => .bool b) (fun e => by cases e))⟩ : Rep w0 T0 ((.opt true (.bool b), .bool b) :: H) s a w) hput
      exact hk _ _ _ h2 hr2
    | false =>
      simp only [Bool.false_eq_true, if_false]
      exact skip rfl _ s hr (fun _ => .opt false _ _ rfl (fun e => by cases e) (fun _ => rfl)) hput
  · split at h
    · rename_i v hv
      obtain ⟨hb, hpre, hput⟩ := h
      cases W with
      | true =>
        simp only [if_true]
        obtain ⟨hpc, hop⟩ := hpre rfl
        obtain ⟨m, hm⟩ := hr
        refine vcOp_sound hop H a w _ _ ⟨m, hm.peel hpc⟩ ?_
        rintro r s' v' w' ⟨rfl, rfl⟩ ⟨m', hm'⟩
        have hv' := hm'.held _ (.head _)
        have hm2 := hm'.unhold.unpeel hpc
        obtain ⟨s'', h2, hr2⟩ := Rep.put (v := v') (⟨m', hm2.hold (.opt true r v' hb (fun _ => hv') (fun e => by cases e))⟩ : Rep w0 T0 ((.opt true r, v') :: H) s a w') hput
        exact hk _ _ _ h2 hr2
      | false =>
        simp only [Bool.false_eq_true, if_false]
        obtain ⟨m, hm⟩ := hr
        obtain ⟨s'', h2, hr2⟩ := Rep.put (v := undef) (⟨m, hm.hold (.opt false v undef hb (fun e => by cases e) (fun _ => rfl))⟩ : Rep w0 T0 ((.opt false v, undef) :: H) s a w) hput
        exact hk _ _ _ h2 hr2
    · cases W with
      | true =>
        simp only [if_true]
        obtain ⟨hpc, hop⟩ := h.1 rfl
        obtain ⟨m1, hm1⟩ := hr1 rfl
        refine vcOp_sound hop H a w _ _ ⟨m1, hm1.peel hpc⟩ ?_
        intro r s' v w' hk' hr'
        obtain ⟨s'', h2, hr2⟩ := hr'.put hk'
        exact hk _ _ _ h2 hr2
      | false =>
        simp only [Bool.false_eq_true, if_false]
        exact skip rfl _ s2 (hr2 rfl) (fun _ => .opt false _ _ rfl (fun e => by cases e) (fun _ => rfl)) (h.2 rfl)

theorem vcGo_sound {ops : Array Oper} {o : Oper} {s : S} {k : S → Prop} (h : vcGo P w0 T0 ops o s k) {a : Act} {w : World} (hr : Rep w0 T0 H s a w) {K : Act → World → Prop} {Qc : Exit → Act → World → Prop}
    (hk : ∀ s' a' w', k s' → Rep w0 T0 H s' a' w' → K a' w') : if Region.wanted o (yielded ops a.tmps) then o.wp P a w K Qc else K (a.put o.dst undef) w := by
  unfold vcGo at h
  cases hg : o.guard with
  | none =>
    rw [hg] at h
    rw [if_pos (by simp [Region.wanted, hg])]
    dsimp only at h
    split at h
    · rename_i pre b hgp
      obtain ⟨⟨hp, hok⟩, hput⟩ := h
      have hrun := gPick_sound (P := P) hgp hp hok hr
      unfold Oper.wp
      rw [hrun]
      obtain ⟨m, hm⟩ := hr
      obtain ⟨s'', h2, hr2⟩ := Rep.put (v := .bool b) (⟨m, hm.hold (.bool b)⟩ : Rep w0 T0 ((.bool b, .bool b) :: H) s a w) hput
      exact hk _ _ _ h2 hr2
    · refine vcOp_sound h H a w _ _ hr ?_
      intro r s' v w' hk' hr'
      obtain ⟨s'', h2, hr2⟩ := hr'.put hk'
      exact hk _ _ _ h2 hr2
  | some jw =>
    obtain ⟨j, want⟩ := jw
    rw [hg] at h
    dsimp only at h
    cases hd : (ops[j]?).bind (·.dst) with
    | none => rw [hd] at h; exact h.elim
    | some r =>
      rw [hd] at h
      dsimp only at h
      have hslot : ∀ x, s.get r = x → x ≠ .dead → lk s.env r = some x := by
        intro x hx hne
        simp only [S.get] at hx
        cases hl : lk s.env r with
        | none => rw [hl] at hx; exact absurd hx.symm hne
        | some y => rw [hl] at hx; exact congrArg some hx
      have hyield : ∀ b, a.tmps.getD r undef = .bool b → yielded ops a.tmps j = some b := by
        intro b hvv
        have h1 : a.tmps[r]? = some (.bool b) := by
          rw [Array.getD_eq_getD_getElem?] at hvv
          cases hq : a.tmps[r]? with
          | none => rw [hq] at hvv; simp [undef] at hvv
          | some y => rw [hq] at hvv; simpa using hvv
        simp [yielded, hd, h1]
      have hyno : a.tmps.getD r undef = undef → yielded ops a.tmps j = none := by
        intro hvv
        cases hq : a.tmps[r]? with
        | none => simp [yielded, hd, hq]
        | some y =>
          rw [Array.getD_eq_getD_getElem?, hq] at hvv
          have : y = undef := by simpa using hvv
          subst this
          simp [yielded, hd, hq, undef]
      split at h
      · rename_i b hb
        have hl := hslot _ hb (by simp)
        obtain ⟨m, hm⟩ := hr
        have hv := hm.env r _ hl
        generalize hvv : a.tmps.getD r undef = vv at hv
        cases hv
        have hy := hyield b hvv
        refine vcWhen_sound h ⟨m, hm⟩ ?_ ?_ ?_ hk
        · cases want <;> cases b <;> simp [Region.wanted, hg, hy]
        · intro hc
          refine ⟨m, hm.know ?_⟩
          rw [hvv]
          have : b = want := by cases want <;> cases b <;> simp at hc <;> rfl
          rw [this]; exact .bool want
        · intro hc
          refine ⟨m, hm.know ?_⟩
          rw [hvv]
          have : b = !want := by cases want <;> cases b <;> simp at hc <;> rfl
          rw [this]; exact .bool _
      · rename_i c b hb
        have hl := hslot _ hb (by simp)
        have hr' := hr
        obtain ⟨m, hm⟩ := hr'
        have hv := hm.env r _ hl
        refine vcWhen_sound h hr ?_ (fun _ => hr) (fun _ => hr) hk
        cases hv with
        | opt _ _ _ _ h1 h2 =>
          cases c with
          | true =>
            have h1' := h1 rfl
            generalize hvv : a.tmps.getD r undef = vv at h1'
            cases h1'
            have hy := hyield b hvv
            cases want <;> cases b <;> simp [Region.wanted, hg, hy]
          | false =>
            have hy := hyno (h2 rfl)
            cases want <;> simp [Region.wanted, hg, hy]
      · exact h.elim

theorem vcOps_sound {ops : Array Oper} {Qc : Exit → Act → World → Prop} : ∀ (l : List Oper) (s : S) (Q : S → Prop), vcOps P w0 T0 ops l s Q → ∀ (a : Act) (w : World), Rep w0 T0 H s a w →
    (∀ s' a' w', Q s' → Rep w0 T0 H s' a' w' → Qc .normal a' w') → wpList P ops Qc l a w
  | [], s, Q, h, a, w, hr, hq => wpList_nil (hq s a w h hr)
  | o :: rest, s, Q, h, a, w, hr, hq => by
    unfold vcOps at h
    refine wpList_step fun K hK => ?_
    exact vcGo_sound h hr fun s' a' w' hk hr' => hK _ _ (vcOps_sound rest s' Q hk a' w' hr' hq)
end

/-! ### Regions whose order is drawn -/
/-- A plan for such a region: which operation comes first where it makes no difference, and every choice where it may. -/
inductive DTree where
  | done
  | first (i : Nat) (t : DTree)
  | cons (i : Nat) (t r : DTree)
  | stop

def isMove (o : Oper) : Bool := match o.guard, o.op with
  | none, .move _ => true
  | none, .assign _ => true
  | none, .fieldAddr _ _ _ => true
  | _, _ => false

def treeOk (ops : Array Oper) : DTree → Nat → Array Bool → Option (List Nat) → Bool
  | .done, _, listed, none => (Region.ready .any ops listed).isEmpty
  | .first i t, n + 1, listed, none => ((ops[i]?).map isMove).getD false && Region.free .any ops listed i && (Region.ready .any ops listed).contains i && treeOk ops t n (listed.setIfInBounds i true) none
  | .cons i t r, n + 1, listed, none => match Region.ready .any ops listed with
    | j :: l => i == j && treeOk ops t n (listed.setIfInBounds i true) none && treeOk ops r (n + 1) listed (some l)
    | [] => false
  | .cons i t r, n + 1, listed, some q => match q with
    | j :: l => i == j && treeOk ops t n (listed.setIfInBounds i true) none && treeOk ops r (n + 1) listed (some l)
    | [] => false
  | .stop, _ + 1, _, some q => q.isEmpty
  | _, _, _, _ => false

def vcTree (P : Program) (w0 : World) (T0 : Bs) (ops : Array Oper) : DTree → S → (S → Prop) → Prop
  | .done, s, Q => Q s
  | .first i t, s, Q => match ops[i]? with
    | some o => match o.op with
      | .move x => Chk (opndOk x) (vcPut o.dst (s.ev x) s (fun s' => vcTree P w0 T0 ops t s' Q))
      | .assign x => Chk (opndOk x) (vcPut o.dst (s.ev x) s (fun s' => vcTree P w0 T0 ops t s' Q))
      | .fieldAddr ty x k => Chk (opndOk x) (vcFieldAddr P ty x k s (fun r s1 => vcPut o.dst r s1 (fun s' => vcTree P w0 T0 ops t s' Q)))
      | _ => False
    | none => False
  | .cons i t r, s, Q => match ops[i]? with
    | some o => vcGo P w0 T0 ops o s (fun s' => vcTree P w0 T0 ops t s' Q) ∧ vcTree P w0 T0 ops r s Q
    | none => False
  | .stop, _, _ => True

def thenS (next : S → Prop) (Q : Exit → S → Prop) : Exit → S → Prop
  | .normal, s => next s
  | e, s => Q e s
def blockS (id : Nat) (Q : Exit → S → Prop) : Exit → S → Prop
  | .exit i, s => if i = id then Q .normal s else Q (.exit i) s
  | e, s => Q e s

def knowB (c : Operand) (b : Bool) (s : S) : S :=
  match c with
  | .tmp t => s.set t (.bool b)
  | _ => s

def vcCode (P : Program) (w0 : World) (T0 : Bs) (b0 : Nat) : Code → (Exit → S → Prop) → S → Prop
  | .skip, Q, s => Q .normal s
  | .label _, Q, s => Q .normal s
  | .region id ops draw, Q, s => match draw with
    | true => @VcDraw P w0 T0 b0 id ops s ⟨Q .normal⟩
    | false => vcOps P w0 T0 ops ops.toList s (Q .normal)
  | .seq x y, Q, s => vcCode P w0 T0 b0 x (thenS (vcCode P w0 T0 b0 y Q) Q) s
  | .cond c x y, Q, s => match s.ev c with
    | .bool b => Chk (opndOk c) (@Ite b ⟨vcCode P w0 T0 b0 x Q (knowB c true s)⟩ ⟨vcCode P w0 T0 b0 y Q (knowB c false s)⟩)
    | _ => False
  | .block id c, Q, s => vcCode P w0 T0 b0 c (blockS id Q) s
  | .loop c, Q, s => @VcLoop P w0 T0 b0 c s ⟨Q⟩
  | .exit id, Q, s => Q (.exit id) s
  | .ret, Q, s => Q .ret s
  | _, _, _ => False

section
variable {P : Program} {w0 : World} {T0 : Bs} {b0 : Nat} [hG : GlB P w0 T0]

theorem vcCode_sound : ∀ (c : Code) (Q : Exit → S → Prop) (s : S), vcCode P w0 T0 b0 c Q s → ∀ (H : List (AV × Value)) (a : Act) (w : World), HeldB b0 H → Rep w0 T0 H s a w →
    c.wp P (fun e a' w' => ∃ s', Q e s' ∧ Rep w0 T0 H s' a' w') a w := by
  intro c
  induction c with
  | skip => intro Q s h H a w hH hr; exact wp_skip ⟨s, h, hr⟩
  | label l => intro Q s h H a w hH hr; exact wp_label ⟨s, h, hr⟩
  | region id ops draw =>
    intro Q s h H a w hH hr
    cases draw with
    | true =>
      exact wp_mono (h H a w hH hr) fun e a' w' ⟨he, s', hq, hr'⟩ => by subst he; exact ⟨s', hq, hr'⟩
    | false =>
      exact wp_region_list (vcOps_sound ops.toList s (Q .normal) h a w hr fun s' a' w' hq hr' => ⟨s', hq, hr'⟩)
  | seq x y ihx ihy =>
    intro Q s h H a w hH hr
    refine wp_seq (wp_mono (ihx _ s h H a w hH hr) ?_)
    rintro e a' w' ⟨s', hq, hr'⟩
    cases e with
    | normal => exact ihy Q s' hq H a' w' hH hr'
    | _ => exact ⟨s', hq, hr'⟩
  | cond c x y ihx ihy =>
    intro Q s h H a w hH hr
    simp only [vcCode] at h
    obtain ⟨m, hm⟩ := hr
    cases hc : s.ev c with
    | bool b =>
      rw [hc] at h
      obtain ⟨hok, h⟩ := h
      have rc := hm.ev c hok
      rw [hc] at rc
      generalize hv : a.eval c = vc at rc
      cases rc
      have hk : Rep w0 T0 H (knowB c b s) a w := by
        cases c with
        | tmp t => exact ⟨m, hm.know (by have : a.tmps.getD t undef = .bool b := hv; rw [this]; exact .bool b)⟩
        | _ => exact ⟨m, hm⟩
      cases b with
      | true => exact wp_cond_true hv (ihx Q _ (h.1 rfl) H a w hH hk)
      | false => exact wp_cond_false hv (ihy Q _ (h.2 rfl) H a w hH hk)
    | _ => rw [hc] at h; exact h.elim
  | block id c ih =>
    intro Q s h H a w hH hr
    refine wp_block (wp_mono (ih _ s h H a w hH hr) ?_)
    rintro e a' w' ⟨s', hq, hr'⟩
    cases e with
    | exit i =>
      simp only [blockS] at hq
      simp only [Exit.inBlock]
      split at hq
      · rename_i e; rw [if_pos e]; exact ⟨s', hq, hr'⟩
      · rename_i e; rw [if_neg e]; exact ⟨s', hq, hr'⟩
    | _ => exact ⟨s', hq, hr'⟩
  | loop c ih => intro Q s h H a w hH hr; exact h H a w hH hr
  | exit id => intro Q s h H a w hH hr; exact wp_exit ⟨s, h, hr⟩
  | ret => intro Q s h H a w hH hr; exact wp_ret ⟨s, h, hr⟩
  | _ => intro Q s h; exact h.elim

/-! ### States that say less -/
def Ent (w0 : World) (T0 : Bs) (b0 : Nat) (s s' : S) : Prop := ∀ (H : List (AV × Value)) (a : Act) (w : World), HeldB b0 H → Rep w0 T0 H s a w → Rep w0 T0 H s' a w

theorem VcLoop.intro {c : Code} {s : S} {Q : Exit → S → Prop} {α : Type} (shape : α → S) (I : α → Prop) (μ : α → Nat) (x0 : α) (h0 : Ent w0 T0 b0 s (shape x0)) (hI : I x0)
    (body : ∀ x, I x → vcCode P w0 T0 b0 c (thenS (fun s' => ∃ x', Ent w0 T0 b0 s' (shape x') ∧ I x' ∧ μ x' < μ x) Q) (shape x)) : @VcLoop P w0 T0 b0 c s ⟨Q⟩ := by
  intro H a w hH hr
  refine wp_loop_ghost (fun n a w => ∃ x, μ x = n ∧ I x ∧ Rep w0 T0 H (shape x) a w) (μ x0) ⟨x0, rfl, hI, h0 H a w hH hr⟩ ?_
  rintro n a w ⟨x, rfl, hx, hr⟩
  refine wp_mono (vcCode_sound c _ _ (body x hx) H a w hH hr) ?_
  rintro e a' w' ⟨s', hq, hr'⟩
  cases e with
  | normal =>
    obtain ⟨x', he, hI', hlt⟩ := hq
    exact ⟨μ x', hlt, x', rfl, hI', he H a' w' hH hr'⟩
  | _ => exact ⟨s', hq, hr'⟩

/-- A piece of code, all that can be asked of it. -/
def VcRun (P : Program) (w0 : World) (T0 : Bs) (b0 : Nat) (c : Code) (s : S) (Q : Exit → S → Prop) : Prop :=
  ∀ (H : List (AV × Value)) (a : Act) (w : World), HeldB b0 H → Rep w0 T0 H s a w → c.wp P (fun e a' w' => ∃ s', Q e s' ∧ Rep w0 T0 H s' a' w') a w
theorem VcRun.of {c : Code} {s : S} {Q : Exit → S → Prop} (h : vcCode P w0 T0 b0 c Q s) : VcRun P w0 T0 b0 c s Q := vcCode_sound c Q s h
theorem VcRun.seq {x y : Code} {s : S} {Q : Exit → S → Prop} (h : vcCode P w0 T0 b0 x (thenS (fun s' => VcRun P w0 T0 b0 y s' Q) Q) s) : VcRun P w0 T0 b0 (.seq x y) s Q := by
  intro H a w hH hr
  refine wp_seq (wp_mono (vcCode_sound x _ s h H a w hH hr) ?_)
  rintro e a' w' ⟨s', hq, hr'⟩
  cases e with
  | normal => exact hq H a' w' hH hr'
  | _ => exact ⟨s', hq, hr'⟩
/-- A join: whatever way the code came, it stands at the shape. -/
theorem VcRun.cut {x y : Code} {s : S} {Q : Exit → S → Prop} {α : Type} (shape : α → S) (I : α → Prop) (h : VcRun P w0 T0 b0 x s (thenS (fun s' => ∃ z, Ent w0 T0 b0 s' (shape z) ∧ I z) Q)) (h2 : ∀ z, I z → VcRun P w0 T0 b0 y (shape z) Q) : VcRun P w0 T0 b0 (.seq x y) s Q := by
  intro H a w hH hr
  refine wp_seq (wp_mono (h H a w hH hr) ?_)
  rintro e a' w' ⟨s', hq, hr'⟩
  cases e with
  | normal => obtain ⟨z, he, hz⟩ := hq; exact h2 z hz H a' w' hH (he H a' w' hH hr')
  | _ => exact ⟨s', hq, hr'⟩
theorem VcRun.block {x : Code} {id : Nat} {s : S} {Q : Exit → S → Prop} (h : VcRun P w0 T0 b0 x s (blockS id Q)) : VcRun P w0 T0 b0 (.block id x) s Q := by
  intro H a w hH hr
  refine wp_block (wp_mono (h H a w hH hr) ?_)
  rintro e a' w' ⟨s', hq, hr'⟩
  cases e with
  | exit i =>
    simp only [blockS] at hq
    simp only [Exit.inBlock]
    split at hq
    · rename_i e; rw [if_pos e]; exact ⟨s', hq, hr'⟩
    · rename_i e; rw [if_neg e]; exact ⟨s', hq, hr'⟩
  | _ => exact ⟨s', hq, hr'⟩
theorem VcRun.ent {x : Code} {s s' : S} {Q : Exit → S → Prop} (he : Ent w0 T0 b0 s s') (h : VcRun P w0 T0 b0 x s' Q) : VcRun P w0 T0 b0 x s Q :=
  fun H a w hH hr => h H a w hH (he H a w hH hr)
theorem VcLoop.run {c : Code} {s : S} {Q : Exit → S → Prop} {α : Type} (shape : α → S) (I : α → Prop) (μ : α → Nat) (x0 : α) (h0 : Ent w0 T0 b0 s (shape x0)) (hI : I x0)
    (body : ∀ x, I x → VcRun P w0 T0 b0 c (shape x) (thenS (fun s' => ∃ x', Ent w0 T0 b0 s' (shape x') ∧ I x' ∧ μ x' < μ x) Q)) : @VcLoop P w0 T0 b0 c s ⟨Q⟩ := by
  intro H a w hH hr
  refine wp_loop_ghost (fun n a w => ∃ x, μ x = n ∧ I x ∧ Rep w0 T0 H (shape x) a w) (μ x0) ⟨x0, rfl, hI, h0 H a w hH hr⟩ ?_
  rintro n a w ⟨x, rfl, hx, hr⟩
  refine wp_mono (body x hx H a w hH hr) ?_
  rintro e a' w' ⟨s', hq, hr'⟩
  cases e with
  | normal =>
    obtain ⟨x', he, hI', hlt⟩ := hq
    exact ⟨μ x', hlt, x', rfl, hI', he H a' w' hH hr'⟩
  | _ => exact ⟨s', hq, hr'⟩
end
end Go.Fv
