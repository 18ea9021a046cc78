/-
  Regions whose order is drawn: walked once, in the text's order. Operations that leave the abstract state as it is may come in any order;
  those that change it ('es') come in the text's order among themselves.
-/
import Derived.Test.YtfebnhmnkgnofaaDoorFvCalls
import Derived.Test.YtfebnhmnkgnofaaDoorFvDraw
namespace Go.Fv
open Go.RowKit
set_option linter.unusedVariables false
set_option linter.unusedSimpArgs false
set_option linter.unnecessarySimpa false

abbrev HpS := List (Nat × Item) × Nat

def rOps : Op → List Operand
  | .move x => [x]
  | .assign x => [x]
  | .pick c x y => [c, x, y]
  | .extract x _ => [x]
  | .makeFunc _ first caps => first.toList ++ caps.toList
  | .box _ x => [x]
  | .load _ x => [x]
  | .store _ x v => [x, v]
  | .nilCheck x => [x]
  | .fieldAddr _ x _ => [x]
  | .indexAddr _ x i => [x, i]
  | .makeSlice _ l c => [l, c]
  | .binOp _ _ x y _ => [x, y]
  | .unOp _ _ x => [x]
  | .convert _ _ x => [x]
  | .index _ x i => [x, i]
  | .field _ x _ => [x]
  | .slice _ x l h m => x :: (l.toList ++ (h.toList ++ m.toList))
  | .buildSlice _ _ ps => ps.toList.map (·.2)
  | .build _ ps => ps.toList.map (·.2)
  | .call c => match c.callee with
    | .value f => f :: c.args.toList
    | _ => c.args.toList
  | _ => []

def peelV (v : AV) : AV := match v with
  | .opt _ v => v
  | v => v
def onlyE (s : S) : List Operand → List (Nat × AV)
  | [] => []
  | .tmp t :: l => (t, s.get t) :: onlyE s l
  | .const _ :: l => onlyE s l
  | .func _ :: l => onlyE s l
  | .global _ :: l => onlyE s l
def onlyP (s : S) : List Operand → List (Nat × AV)
  | [] => []
  | .tmp t :: l => (t, peelV (s.get t)) :: onlyP s l
  | .const _ :: l => onlyP s l
  | .func _ :: l => onlyP s l
  | .global _ :: l => onlyP s l

def gd (ops : Array Oper) (s : S) (o : Oper) : Option (Option Bool) :=
  match o.guard with
  | none => some none
  | some (j, want) => match (ops[j]?).bind (·.dst) with
    | some r => match s.get r with
      | .bool b => some (some (bif want then b else !b))
      | .opt c (.bool b) => some (some (c && bif want then b else !b))
      | _ => none
    | none => none

def qVc (P : Program) (w0 : World) (T0 : Nat → Prop) (o : Oper) (s1 : S) (v : AV) : Prop :=
  vcOp P w0 T0 o s1 (fun r s' => r = v ∧ s'.rows = s1.rows ∧ s'.next = s1.next)

structure Acc where
  o : Oper
  g : Option Bool
  env : List (Nat × AV)
  v : AV
  ks : List Nat

def redo1 (P : Program) (w0 : World) (T0 : Nat → Prop) (n : Nat) (x : Acc) (hs : List HpS) : List Nat → Prop
  | [] => True
  | k :: l => (match hs[k]? with
    | some h => match x.g with
      | none => qVc P w0 T0 x.o ⟨n, x.env, h.1, h.2⟩ x.v
      | some c => Fv.below h.2 x.v = true ∧ (c = true → qVc P w0 T0 x.o ⟨n, x.env, h.1, h.2⟩ x.v)
    | none => False) ∧ redo1 P w0 T0 n x hs l
def redo (P : Program) (w0 : World) (T0 : Nat → Prop) (n : Nat) (hs : List HpS) : List Acc → Prop
  | [] => True
  | x :: l => redo1 P w0 T0 n x hs x.ks ∧ redo P w0 T0 n hs l

class QB where
  A : AV → Prop
  B : AV → Prop
class QC where
  A : AV → List (Nat × Item) → Nat → Prop
  B : AV → List (Nat × Item) → Nat → Prop
/-- What a quiet operation gives is to be told. -/
def QV [x : QB] : Prop := ∃ v, x.A v ∧ x.B v
/-- What an operation gives and leaves is to be told. -/
def QE [x : QC] : Prop := ∃ v rows N, x.A v rows N ∧ x.B v rows N
theorem QV.intro {A B : AV → Prop} (v : AV) (h : A v) (k : B v) : @QV ⟨A, B⟩ := ⟨v, h, k⟩
theorem QE.intro {A B : AV → List (Nat × Item) → Nat → Prop} (v : AV) (rows : List (Nat × Item)) (N : Nat) (h : A v rows N) (k : B v rows N) : @QE ⟨A, B⟩ := ⟨v, rows, N, h, k⟩

def accPut (ks : List Nat) (x : Acc) (l : List Acc) : List Acc := match ks with
  | [] => l
  | _ :: _ => x :: l
def ksOf (tb : List (Nat × List Nat)) (i : Nat) : List Nat := match lk tb i with
  | some l => l
  | none => []

def isLin : Op → Bool
  | .move _ => true
  | .assign _ => true
  | .extract _ _ => true
  | .makeFunc _ _ _ => true
  | .box _ _ => true
  | .alloc _ => true
  | .store _ _ _ => true
  | .nilCheck _ => true
  | .makeSlice _ _ _ => true
  | .unOp _ _ _ => true
  | .convert _ _ _ => true
  | .buildSlice _ _ _ => true
  | .build _ _ => true
  | .call c => match c.callee with
    | .builtin .append => true
    | .builtin .min => true
    | .builtin .max => true
    | _ => false
  | _ => false
def esMem : List Nat → Nat → Bool
  | [], _ => false
  | j :: l, i => if i = j then true else esMem l i
theorem esMem_eq : ∀ (l : List Nat) (i : Nat), esMem l i = l.elem i
  | [], _ => rfl
  | j :: l, i => by
    simp only [esMem, List.elem_cons, esMem_eq l i]
    by_cases h : i = j
    · simp [h]
    · have : (i == j) = false := by simpa using h
      rw [if_neg h, this]

/-! ### The walk: what comes behind is not looked at before it is reached -/
inductive QR where
  | val (v : AV) (p : Prop) (re : Bool)
  | lin
  | call
class LxG where
  k : Option Bool → Prop
class LxB where
  x : Prop
  y : Prop
class LxE where
  k : AV → List (Nat × Item) → Nat → Prop
class LxQ where
  k : AV → Bool → Prop
  l : Prop
  c : Prop
def gGo (x : Option (Option Bool)) [K : LxG] : Prop := match x with
  | some g => K.k g
  | none => False
def bGo (b : Bool) [K : LxB] : Prop := match b with
  | true => K.x
  | false => K.y
def eGo (v : AV) (t : S) [K : LxE] : Prop := K.k v t.rows t.next
def qGo (x : QR) [K : LxQ] : Prop := match x with
  | .val v p re => Chk p (K.k v re)
  | .lin => K.l
  | .call => K.c
theorem gGo_some (g : Option Bool) (k : Option Bool → Prop) : @gGo (some g) ⟨k⟩ = k g := rfl
theorem bGo_true (x y : Prop) : @bGo true ⟨x, y⟩ = x := rfl
theorem bGo_false (x y : Prop) : @bGo false ⟨x, y⟩ = y := rfl
theorem eGo_mk (v : AV) (n : Nat) (env : List (Nat × AV)) (R : List (Nat × Item)) (N : Nat) (k : AV → List (Nat × Item) → Nat → Prop) : @eGo v ⟨n, env, R, N⟩ ⟨k⟩ = k v R N := rfl
theorem qGo_val (v : AV) (p : Prop) (re : Bool) (k : AV → Bool → Prop) (l c : Prop) : @qGo (.val v p re) ⟨k, l, c⟩ = Chk p (k v re) := rfl
theorem qGo_lin (k : AV → Bool → Prop) (l c : Prop) : @qGo .lin ⟨k, l, c⟩ = l := rfl
theorem qGo_call (k : AV → Bool → Prop) (l c : Prop) : @qGo .call ⟨k, l, c⟩ = c := rfl

def lxPut (g : Option Bool) (v : AV) : AV := match g with
  | none => v
  | some c => .opt c v
def lxEnv (g : Option Bool) (s : S) (l : List Operand) : List (Nat × AV) := match g with
  | none => onlyE s l
  | some _ => onlyP s l
def dstOk (d : Option Nat) (n : Nat) : Prop := match d with
  | none => True
  | some d => d < n
def putS (d : Option Nat) (v : AV) (s : S) : S := match d with
  | none => s
  | some d => ⟨s.n, (d, v) :: s.env, s.rows, s.next⟩
def qCond (P : Program) (w0 : World) (T0 : Nat → Prop) (o : Oper) (g : Option Bool) (s : S) (v : AV) : Prop := match g with
  | none => qVc P w0 T0 o ⟨s.n, onlyE s (rOps o.op), s.rows, s.next⟩ v
  | some c => Fv.below s.next v = true ∧ (c = true → peelC s (rOps o.op) = true ∧ qVc P w0 T0 o ⟨s.n, onlyP s (rOps o.op), s.rows, s.next⟩ v)
def qRes (P : Program) (w0 : World) (T0 : Nat → Prop) (o : Oper) (g : Option Bool) (s : S) : QR :=
  match gPick ⟨s.n, onlyE s (rOps o.op), s.rows, s.next⟩ o.op with
  | some (pre, b) => match g with
    | none => .val (.bool b) (pre ∧ pickOk o.op) false
    | some c => .val (.bool b) (c = true → pre ∧ pickOk o.op) false
  | none => match gVal P ⟨s.n, lxEnv g s (rOps o.op), s.rows, s.next⟩ o.op with
    | some v => .val v (qCond P w0 T0 o g s v) true
    | none => match g, isLin o.op with
      | none, true => .lin
      | _, _ => .call

def vcLex (P : Program) (w0 : World) (T0 : Nat → Prop) (ops : Array Oper) (es : List Nat) (tb : List (Nat × List Nat)) : List Oper → Nat → List Acc → List HpS → S → (S → Prop) → Prop
  | [], _, acc, hs, s, Q => redo P w0 T0 s.n hs acc ∧ Q s
  | o :: rest, i, acc, hs, s, Q =>
    @gGo (gd ops s o) ⟨fun g => @bGo (esMem es i) ⟨
      match g with
      | none => @bGo (isLin o.op) ⟨
          vcOp P w0 T0 o ⟨s.n, onlyE s (rOps o.op), s.rows, s.next⟩ (fun v t => @eGo v t ⟨fun v R N => Chk (dstOk o.dst s.n) (vcLex P w0 T0 ops es tb rest (i + 1) acc (hs ++ [(R, N)]) (putS o.dst v ⟨s.n, s.env, R, N⟩) Q)⟩),
          @QE ⟨fun v R N => vcOp P w0 T0 o ⟨s.n, onlyE s (rOps o.op), s.rows, s.next⟩ (fun r t => r = v ∧ t.rows = R ∧ t.next = N),
            fun v R N => Chk (dstOk o.dst s.n) (vcLex P w0 T0 ops es tb rest (i + 1) acc (hs ++ [(R, N)]) (putS o.dst v ⟨s.n, s.env, R, N⟩) Q)⟩⟩
      | some c => @Ite c ⟨@QE ⟨fun v R N => peelC s (rOps o.op) = true ∧ vcOp P w0 T0 o ⟨s.n, onlyP s (rOps o.op), s.rows, s.next⟩ (fun r t => r = v ∧ t.rows = R ∧ t.next = N),
            fun v R N => Chk (dstOk o.dst s.n) (vcLex P w0 T0 ops es tb rest (i + 1) acc (hs ++ [(R, N)]) (putS o.dst (.opt true v) ⟨s.n, s.env, R, N⟩) Q)⟩⟩
          ⟨Chk (dstOk o.dst s.n) (vcLex P w0 T0 ops es tb rest (i + 1) acc (hs ++ [(s.rows, s.next)]) (putS o.dst (.opt false (.bool false)) s) Q)⟩,
      @qGo (qRes P w0 T0 o g s) ⟨
        fun v re => Chk (dstOk o.dst s.n) (vcLex P w0 T0 ops es tb rest (i + 1) (bif re then accPut (ksOf tb i) ⟨o, g, lxEnv g s (rOps o.op), v, ksOf tb i⟩ acc else acc) hs (putS o.dst (lxPut g v) s) Q),
        vcOp P w0 T0 o ⟨s.n, onlyE s (rOps o.op), s.rows, s.next⟩ (fun v t => @eGo v t ⟨fun v R N => Chk (R = s.rows ∧ N = s.next) (Chk (dstOk o.dst s.n) (vcLex P w0 T0 ops es tb rest (i + 1) (accPut (ksOf tb i) ⟨o, g, lxEnv g s (rOps o.op), v, ksOf tb i⟩ acc) hs (putS o.dst v s) Q))⟩),
        @QV ⟨fun v => qCond P w0 T0 o g s v,
          fun v => Chk (dstOk o.dst s.n) (vcLex P w0 T0 ops es tb rest (i + 1) (accPut (ksOf tb i) ⟨o, g, lxEnv g s (rOps o.op), v, ksOf tb i⟩ acc) hs (putS o.dst (lxPut g v) s) Q)⟩⟩⟩⟩

theorem vcPut_of {d : Option Nat} {v : AV} {s : S} {Q : S → Prop} (h1 : dstOk d s.n) (h2 : Q (putS d v s)) : vcPut d v s Q := by
  unfold vcPut
  cases d with
  | none => exact h2
  | some d => simp only [dstOk] at h1; simp only [h1, if_true]; exact h2
end Go.Fv
