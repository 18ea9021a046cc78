/-
  The names of one state among those of another, found by looking; steps of a walk.
-/
import Derived.Test.YtfebnhmnkgnofaaDoorFvTy
namespace Go.Fv
set_option linter.unusedVariables false

mutual
def mkV : AV → AV → List (Nat × Nat)
  | .own i, y => match y with | .own k => [(i, k)] | _ => []
  | .ptr i _, y => match y with | .ptr k _ => [(i, k)] | _ => []
  | .elt i _ _ _, y => match y with | .elt k _ _ _ => [(i, k)] | _ => []
  | .agg l, y => match y with | .agg l' => mkL l l' | _ => []
  | .tup l, y => match y with | .tup l' => mkL l l' | _ => []
  | .fn _ l, y => match y with | .fn _ l' => mkL l l' | _ => []
  | .dead, _ => []
  | .nilS, _ => []
  | .bool _, _ => []
  | .int _ _, _ => []
  | .str _, _ => []
  | .ro _, _ => []
  | .cell _, _ => []
  | .raw _, _ => []
  | .opt _ x, y => match y with | .opt _ y' => mkV x y' | _ => []
def mkL : List AV → List AV → List (Nat × Nat)
  | [], _ => []
  | x :: l, ys => match ys with | y :: l' => mkV x y ++ mkL l l' | [] => []
end
def mkEnv (s : S) : List (Nat × AV) → List (Nat × Nat)
  | [] => []
  | (r, v) :: l => mkV v (s.get r) ++ mkEnv s l
def mkItem : Item → Option Item → List (Nat × Nat)
  | .box _ cs, some (.box _ cs') => mkL cs cs'
  | _, _ => []
def mkRows (l : List (Nat × Nat)) (rows : List (Nat × Item)) : List (Nat × Item) → List (Nat × Nat)
  | [] => []
  | (i, it) :: rest => mkItem it (lk rows (pm l i)) ++ mkRows l rows rest
def mkRen (s s' : S) : List (Nat × Nat) := mkEnv s s'.env ++ mkRows (mkEnv s s'.env) s.rows s'.rows

theorem csz_int (k : IntKind) (n : Int) : (Value.int k n).cells.size = 1 := rfl
theorem csz_bool (b : Bool) : (Value.bool b).cells.size = 1 := rfl
theorem csz_str (b : ByteArray) : (Value.string b).cells.size = 1 := rfl
theorem csz_slice (a : Option Addr) (n m : Nat) : (Value.slice a n m).cells.size = 1 := rfl
theorem csz_ptr (a : Option Addr) : (Value.pointer a).cells.size = 1 := rfl
theorem csz_agg (a : Array Value) : (Value.agg a).cells.size = a.size := rfl
theorem Ite.bool {b : Bool} {x y : Prop} (h1 : b = true → x) (h2 : b = false → y) : @Ite b ⟨x⟩ ⟨y⟩ := ⟨h1, h2⟩
section
variable {w0 : World} {T0 : Nat → Prop} {b0 : Nat}
theorem Ent.auto0 {s s' : S} (hn : s'.n = s.n) (he : envOk (pm (mkRen s s')) s s'.next s'.env) (hr : subOk (pm (mkRen s s')) s.rows s'.next s'.rows) : Ent w0 T0 0 s s' :=
  Ent.of (mkRen s s') hn (Nat.zero_le _) (fun _ _ => Nat.zero_le _) he hr
/-- Where a function ends: names by looking at the result. -/
def retV (s : S) : ResultVar → AV
  | .tmp t => s.ev (.tmp t)
  | .cell t _ => match s.get t with
    | .ptr i off => match lk s.rows i with
      | some (.box _ cs) => .agg (cs.drop off)
      | _ => .dead
    | _ => .dead
def mkRet (s : S) (res : List ResultVar) (out : AV) (rows : List (Nat × Item)) : List (Nat × Nat) :=
  mkV out (tupOf (res.map (retV s))) ++ mkRows (mkV out (tupOf (res.map (retV s)))) s.rows rows
theorem Ret.auto {P : Program} (N : Nat) {res : List ResultVar} {out : AV} {rows : List (Nat × Item)} {s : S} (h : rets P s res (fun vs => tupOf vs = ren (pm (mkRet s res out rows)) out)) (hb : Fv.below N out = true) (hr : subOk (pm (mkRet s res out rows)) s.rows N rows) : Ret P w0 T0 res out rows s :=
  Ret.of _ N h hb hr
end
end Go.Fv
