/-
  A part of the proof of the claim: walks over the program's functions and the plain laws that these need. No condition of its own.
-/
import Derived.Test.YtodlgmmbfbiilaaDoorFvPart9
import Derived.Test.YtodlgmmbfbiilaaDoorFvPart8
import Derived.Test.YtodlgmmbfbiilaaDoorFvPart6
import Derived.Shelf.Vars
import Derived.Handed
import Derived.LaidSub
import Derived.Lib.LaidTab
/-
  Calls whose results are only read by the caller: they stand as data, and the caller's state stays as it is.
-/
namespace Go.Fv
set_option linter.unusedSectionVars false
open Go.RowKit
set_option linter.unusedVariables false
set_option linter.unusedSimpArgs false
set_option linter.unnecessarySimpa false

def outOk (rows : List (Nat × Item)) (x y : AV) : Prop := match x with
  | .tup l => ∃ l', argOkL rows l l' ∧ y = .tup l'
  | x => argOk rows x y

section
variable {P : Program} {w0 : World} {T0 : Bs}

theorem OutOk.ro {T : Nat → Prop} {B : Nat} {w : World} {out out' : AV} {rows : List (Nat × Item)} {v : Value} (h : OutOk T B w out rows v) (ho : outOk rows out out') : OutOk T B w out' [] v := by
  obtain ⟨m, N, hr, hrows, hsep⟩ := h
  have hblk : ∀ i it, lk rows i = some it → ∀ b, blk (m i) = some b → B ≤ b := fun i it hi b hb => ((hrows i it hi).2.blk b hb).1
  have hl : Lend w (⟨w, allow (bs T) B m rows, m, N⟩ : Ctx) rows (allow (bs T) B (fun _ => undef) []) :=
    { hw := rfl, t := fun b hb => ⟨hb.1, fun i it hi => by simp [lk] at hi⟩,
      own := fun i e r hi => by
        obtain ⟨n, cells, hc, hn, hq, _⟩ := (hrows i _ hi).2
        exact ⟨fun b hb => ⟨.inl (hblk i _ hi b hb), fun i it hi => by simp [lk] at hi⟩, n, cells, hc, hn, hq⟩,
      box := fun i e cs hi => by
        obtain ⟨g, vs, hv, hg, hl, hh⟩ := (hrows i _ hi).2
        exact ⟨g, vs, hv, ⟨.inl hg, fun i it hi => by simp [lk] at hi⟩, hl, hh⟩,
      map := fun i ks vs hi => by
        obtain ⟨g, es, clock, hv, hg, h1, h2, h3, h4, hh⟩ := (hrows i _ hi).2
        exact ⟨g, es, clock, hv, ⟨.inl hg, fun i it hi => by simp [lk] at hi⟩, h1, h2, h3, h4, hh⟩ }
  refine ⟨fun _ => undef, 0, ?_, fun i it hi => by simp [lk] at hi, fun i j it jt b hi => by simp [lk] at hi⟩
  unfold outOk at ho
  split at ho
  · obtain ⟨l', ha, rfl⟩ := ho
    cases hr with
    | tup _ vs hv => exact .tup _ _ (argOkT_rv hl _ ha hv)
  · exact argOkN_rv hl 6 _ ho hr

theorem OutOk.noid {T : Nat → Prop} {B : Nat} {w : World} {out : AV} {v : Value} (h : OutOk T B w out [] v) : OutOk T B w out [] v := h

/-- A CALL BY A CONTRACT whose results share nothing, and are only read. -/
theorem VcCall.ro [hG : GlB P w0 T0] {f : Nat} {args args' : List AV} {out : AV} (out' : AV) {rows : List (Nat × Item)} {s : S} {K : AV → S → Prop} (h : FnFr P f args' out rows) (ha : argOkL s.rows args args') (ho : outOk rows out out') (hn : noId out' = true)
    (hk : K out' s) : @VcCall P w0 T0 f args s ⟨K⟩ := by
  have h' : FnFr P f args' out' [] := ⟨h.1, fun w T vals hgl hv => (h.2 w T vals hgl hv).mono fun e w' ⟨v, he, hb, hq⟩ => ⟨v, he, hb, hq.ro ho⟩⟩
  refine VcCall.fr h' ha 0 (noId_below 0 _ hn) trivial ?_
  rw [noId_ren _ _ hn]
  exact hk

theorem FnOk.ro {f : Nat} {args : List AV} {out out' : AV} {rows : List (Nat × Item)} (h : FnOk P f args out rows) (ho : outOk rows out out') : FnOk P f args out' [] :=
  ⟨h.1, fun w T vals hgl hv => (h.2 w T vals hgl hv).mono fun e w' ⟨v, he, hb, hq⟩ => ⟨v, he, hb, hq.ro ho⟩⟩
/-- The same, and its new rows are the caller's own. -/
theorem VcCall.shr [hG : GlB P w0 T0] {f : Nat} {args args' : List AV} {out : AV} {rows : List (Nat × Item)} {s : S} {K : AV → S → Prop} (h : FnOk P f args' out rows) (ha : argOkL [] args args') (N : Nat) (hN : Fv.below N out = true) (hNr : rowsB N rows)
    (hk : K (ren (fun j => s.next + j) out) (s.after s.rows N rows)) : @VcCall P w0 T0 f args s ⟨K⟩ :=
  VcCall.sh s.rows h [] ha (fun _ _ h => h) (fun i it hi => by simp [lk] at hi) N hN hNr hk
end
end Go.Fv

/-
  A nil slice in a box, as an owned row without elements.
-/
namespace Go.Fv
set_option linter.unusedSectionVars false
open Go.RowKit
set_option linter.unusedVariables false
set_option linter.unusedSimpArgs false
set_option linter.unnecessarySimpa false

section
variable {P : Program} {w0 : World} {T0 : Bs} {b0 : Nat}

theorem RvL.setNil {c : Ctx} {x : AV} (hx : Rv c x (.slice none 0 0)) : ∀ {cs : List AV} {vs : List Value} {j : Nat}, RvL c cs vs → cs[j]? = some .nilS → RvL c (cs.set j x) vs
  | _, _, j, .nil, h => by simp at h
  | _, _, 0, .cons y v l vs hy h1 ht, h => by
    simp at h; subst h
    cases hy
    exact .cons _ _ _ _ hx h1 ht
  | _, _, j + 1, .cons y v l vs hy h1 ht, h => by
    simp at h
    exact .cons _ _ _ _ hy h1 (ht.setNil hx h)

/-- A nil slice in a box is an owned row without elements. -/
theorem Ent.nilBox {s : S} (i : Nat) {t : TypeId} {cs : List AV} (j : Nat) (e : TypeId) {z : Value} (hz : ElemZ P e z) (hi : lk s.rows i = some (.box t cs)) (hj : cs[j]? = some .nilS) :
    Ent w0 T0 b0 s { s with rows := put ((s.next, .row e (zrow z 0)) :: s.rows) i (.box t (cs.set j (.own s.next))), next := s.next + 1 } := by
  rintro H a w hH ⟨m, hm⟩
  have hlt := (hm.rows i _ hi).1
  have h1 := new_nil hm hz
  have hi' : lk (s.add (.row e (zrow z 0))).rows i = some (.box t cs) := by
    simp only [S.add, lk]
    rw [if_neg (by omega)]; exact hi
  have h0 := (h1.rows i _ hi').2
  have h2 := h1.upd h1.below hi' (fun _ _ _ => rfl) (.box t (cs.set j (.own s.next))) (fun c hle hw hmm hN => ?_)
  · exact ⟨_, h2.unhold⟩
  · obtain ⟨g, vs, hv, hg, hl, hh⟩ := h0
    refine ⟨g, vs, hv, hg, ?_, by rw [hw]; exact hh⟩
    exact (hl.mono hle).setNil ((h1.held _ (.head _)).mono hle) hj
end
end Go.Fv

/-
  What a function value has captured, where nothing of it is the caller's own memory.
-/
namespace Go.Fv
set_option linter.unusedSectionVars false
open Go.RowKit
set_option linter.unusedVariables false

def lendB : Nat → AV → Bool
  | 0, _ => false
  | n + 1, x => match x with
    | .agg cs => cs.all (lendB n)
    | .fn _ cs => cs.all (lendB n)
    | .ro _ => true
    | .bool _ => true
    | .int _ _ => true
    | .str _ => true
    | .raw _ => true
    | .cell _ => true
    | .nilS => true
    | .mp _ _ => true
    | _ => false

class CapsOk (caps : List AV) : Prop where
  ok : caps.all (lendB 5) = true
section
variable {caps : List AV} [h : CapsOk caps]
end
mutual
theorem mkV_noId : ∀ (x y : AV), noId x = true → mkV x y = []
  | .own _, _, h => by simp [noId] at h
  | .ptr _ _, _, h => by simp [noId] at h
  | .elt _ _ _ _, _, h => by simp [noId] at h
  | .pre _ _, _, h => by simp [noId] at h
  | .agg l, y, h => by simp only [mkV]; split <;> first | exact mkL_noId l _ (by simpa [noId] using h) | rfl
  | .tup l, y, h => by simp only [mkV]; split <;> first | exact mkL_noId l _ (by simpa [noId] using h) | rfl
  | .fn _ l, y, h => by simp only [mkV]; split <;> first | exact mkL_noId l _ (by simpa [noId] using h) | rfl
  | .dead, _, _ => rfl
  | .nilS, _, _ => rfl
  | .bool _, _, _ => rfl
  | .int _ _, _, _ => rfl
  | .str _, _, _ => rfl
  | .ro _, _, _ => rfl
  | .cell _, _, _ => rfl
  | .raw _, _, _ => rfl
  | .mp _ _, _, _ => rfl
  | .opt _ x, y, h => by simp only [mkV]; split <;> first | exact mkV_noId x _ (by simpa [noId] using h) | rfl
theorem mkL_noId : ∀ (x y : List AV), noIdL x = true → mkL x y = []
  | [], _, _ => rfl
  | x :: l, y, h => by
    simp only [noIdL, Bool.and_eq_true] at h
    simp only [mkL]; split
    · rw [mkV_noId x _ h.1, mkL_noId l _ h.2]; rfl
    · rfl
end
theorem mkLL_noId : ∀ (x y : List (List AV)), x.all noIdL = true → mkLL x y = []
  | [], _, _ => rfl
  | x :: l, y, h => by
    simp only [List.all_cons, Bool.and_eq_true] at h
    simp only [mkLL]; split
    · rw [mkL_noId x _ h.1, mkLL_noId l _ h.2]; rfl
    · rfl
theorem mkR_ok (r r' : RowV) [h : RowNoId r] : mkR r r' = [] := by
  have := h.ok
  cases r <;> cases r' <;> first | rfl | exact mkLL_noId _ _ this
end Go.Fv

/-
  The walk of drawn regions, in the set.
-/
namespace Go.Fv
set_option linter.unusedSectionVars false
attribute [go_sem] vcConvX appTy vcLookup lookK vcMakeMap vcMapUpd vcMapEnt entK vcEntStore vcRange vcNext vcEntry List.getLast?_concat mapOf gLook KeysT_nil gMM Bool.false_eq_true true_implies vcLex gGo_some bGo_true bGo_false eGo_mk qGo_val qGo_lin qGo_call lxPut lxEnv dstOk putS qCond qRes rOps peelV onlyE onlyP gd qVc redo1 redo accPut ksOf peelC esMem isLin Option.toList_some Option.toList_none
end Go.Fv

/-
  Maps whose keys and values are told by lists of plain data.
-/
namespace Go.Fv
set_option linter.unusedSectionVars false
set_option linter.unusedVariables false
end Go.Fv

/-
  Small facts about lists.
-/
namespace Go.Fv
set_option linter.unusedSectionVars false
theorem getD_lt {α : Type} {l : List α} {i : Nat} {d : α} (h : i < l.length) : l.getD i d = l[i] := by simp [List.getD, h]
theorem take_eq_iff {α : Type} [DecidableEq α] {a b : List α} (d : α) (h : a.length = b.length) : ∀ {i : Nat}, i ≤ a.length → ((∀ j, j < i → a.getD j d = b.getD j d) ↔ a.take i = b.take i)
  | 0, _ => by simp
  | i + 1, hi => by
    have ih := take_eq_iff d h (i := i) (by omega)
    rw [List.take_succ_eq_append_getElem (by omega), List.take_succ_eq_append_getElem (by omega)]
    constructor
    · intro hh
      have h1 := ih.1 fun j hj => hh j (by omega)
      have h2 := hh i (by omega)
      rw [getD_lt (by omega), getD_lt (by omega)] at h2
      rw [h1, h2]
    · intro hh j hj
      have := List.append_inj hh (by simp; omega)
      by_cases e : j = i
      · subst e
        rw [getD_lt (by omega), getD_lt (by omega)]
        simpa using this.2
      · exact ih.2 this.1 j (by omega)
theorem eq_of_getD {α : Type} [DecidableEq α] {a b : List α} (d : α) (h : a.length = b.length) (hh : ∀ j, j < a.length → a.getD j d = b.getD j d) : a = b := by
  have := (take_eq_iff d h (Nat.le_refl _)).1 hh
  rwa [List.take_length, h, List.take_length] at this

theorem renL_bools (p : Nat → Nat) : ∀ l : List Bool, renL p (l.map .bool) = l.map .bool
  | [] => rfl
  | b :: l => by simp only [List.map_cons, renL, ren]; rw [renL_bools p l]
theorem renL_ints (p : Nat → Nat) (k : IntKind) : ∀ l : List Int, renL p (l.map (.int k)) = l.map (.int k)
  | [] => rfl
  | b :: l => by simp only [List.map_cons, renL, ren]; rw [renL_ints p k l]
theorem belowL_bools (n : Nat) : ∀ l : List Bool, belowL n (l.map .bool) = true
  | [] => rfl
  | b :: l => by simp only [List.map_cons, belowL, below, Bool.true_and]; exact belowL_bools n l
theorem belowL_ints (n : Nat) (k : IntKind) : ∀ l : List Int, belowL n (l.map (.int k)) = true
  | [] => rfl
  | b :: l => by simp only [List.map_cons, belowL, below, Bool.true_and]; exact belowL_ints n k l
theorem mkL_bools : ∀ (l : List Bool) (y : List AV), mkL (l.map .bool) y = []
  | [], _ => by simp [mkL]
  | b :: l, y => by
    simp only [List.map_cons, mkL]
    split
    · simp only [mkV, List.nil_append]; exact mkL_bools l _
    · rfl
theorem mkL_ints (k : IntKind) : ∀ (l : List Int) (y : List AV), mkL (l.map (.int k)) y = []
  | [], _ => by simp [mkL]
  | b :: l, y => by
    simp only [List.map_cons, mkL]
    split
    · simp only [mkV, List.nil_append]; exact mkL_ints k l _
    · rfl
theorem allOk_bools (rows : List (Nat × Item)) (n : Nat) : ∀ l : List Bool, allOk (argOkN rows (n + 1)) (l.map .bool) (l.map .bool)
  | [] => rfl
  | b :: l => ⟨.bool b, l.map .bool, by simp [argOkN], allOk_bools rows n l, rfl⟩
theorem set_bools (l : List Bool) (i : Nat) (b : Bool) : (l.map AV.bool).set i (.bool b) = (l.set i b).map .bool := by rw [List.map_set]
theorem set_ints (l : List Int) (k : IntKind) (i : Nat) (b : Int) : (l.map (AV.int k)).set i (.int k b) = (l.set i b).map (.int k) := by rw [List.map_set]
theorem noRoL_bools : ∀ l : List Bool, noRoL (l.map .bool) = true
  | [] => rfl
  | b :: l => by simp only [List.map_cons, noRoL, noRo, Bool.true_and]; exact noRoL_bools l
theorem spl_eq : ∀ (cs bs : List AV) (off : Nat), off + cs.length ≤ bs.length → spl bs off cs = bs.take off ++ cs ++ bs.drop (off + cs.length)
  | [], bs, off, _ => by simp [spl]
  | c :: cs, bs, off, h => by
    simp only [List.length_cons] at h
    rw [spl, spl_eq cs _ _ (by simp; omega), List.take_set, List.drop_set, if_pos (by omega)]
    rw [List.take_succ_eq_append_getElem (by omega), List.set_append_right _ _ (by simp; omega)]
    have e : off - (List.take off bs).length = 0 := by simp; omega
    rw [e]
    simp only [List.set_cons_zero, List.length_cons, List.append_assoc, List.cons_append, List.nil_append]
    have e2 : off + 1 + cs.length = off + (cs.length + 1) := by omega
    rw [e2]
theorem spl_all {bs cs : List AV} (h : cs.length = bs.length) : spl bs 0 cs = cs := by
  rw [spl_eq _ _ _ (by omega)]; simp [h]
attribute [simp] noIdR_ok renR_ok belowR_ok mkR_ok
attribute [go_sem] frzS noIdR_ok renR_ok belowR_ok renL_bools renL_ints belowL_bools belowL_ints List.length_map Nat.mul_one set_bools set_ints
end Go.Fv

/-! Regions whose order is drawn, where operations that change the state may change places: a tree of these; the others are walked once, and shown again where the heap changes. -/
namespace Go.Fv
set_option linter.unusedSectionVars false
open Go.RowKit
set_option linter.unusedVariables false
set_option linter.unusedSimpArgs false
set_option linter.unnecessarySimpa false

def accKeep (ks : List Nat) : List (Nat × Acc) → List (Nat × Acc)
  | [] => []
  | x :: l => bif esMem ks x.1 then x :: accKeep ks l else accKeep ks l
def redoH (P : Program) (w0 : World) (T0 : Bs) (n : Nat) (o : Oper) (g : Option Bool) (env : List (Nat × AV)) (v : AV) (R : List (Nat × Item)) (N : Nat) : Prop := match g with
  | .none => qVc P w0 T0 o ⟨n, env, R, N⟩ v
  | .some c => Fv.below N v = true ∧ (c = true → qVc P w0 T0 o ⟨n, env, R, N⟩ v)
def redoT (P : Program) (w0 : World) (T0 : Bs) (n : Nat) (R : List (Nat × Item)) (N : Nat) : List (Nat × Acc) → Prop
  | [] => True
  | (_, ⟨o, g, env, v, _⟩) :: l => redoH P w0 T0 n o g env v R N ∧ redoT P w0 T0 n R N l

section
variable {P : Program} {w0 : World} {T0 : Bs} {b0 : Nat} {ops : Array Oper} {T : List Nat} {H : List (AV × Value)} [hG : GlB P w0 T0]

def Cl (ops : Array Oper) (V : Array Bool) : Prop := ∀ (i : Nat) (o : Oper), ops[i]? = some o → V.getD i false = true → ∀ e, e ∈ o.after → Region.binds .any e = true → V.getD e.on false = true
def Dp (V : Array Bool) (o : Oper) : Prop := ∀ e, e ∈ o.after → Region.binds .any e = true → V.getD e.on false = true

theorem stG_set {s0 : S} {vs : List AV} {V : Array Bool} {i : Nat} {v : AV} (h : V.getD i false = false) (r : Nat) : stG ops s0 (vs.set i v) V r = stG ops s0 vs V r := by
  unfold stG
  split
  · rename_i j _
    by_cases e : i = j
    · subst e; rw [h]; rfl
    · simp [List.getD_eq_getElem?_getD, List.getElem?_set, e]
  · rfl

/-- What is known of the operations that may be late. -/
structure VInv (P : Program) (w0 : World) (T0 : Bs) (ops : Array Oper) (s0 : S) (vs : List AV) (V : Array Bool) (Pd : List Nat) (acc : List (Nat × Acc)) (s : S) : Prop where
  vsize : V.size = ops.size
  vlen : vs.length = ops.size
  cl : Cl ops V
  n : s.n = s0.n
  sget : ∀ r, s.get r = stG ops s0 vs V r
  pd : ∀ j, j ∈ Pd → V.getD j false = true ∧ ∀ o, ops[j]? = some o → ∃ U : Array Bool, U.size = ops.size ∧ Cl ops U ∧ (∀ i, U.getD i false = true → V.getD i false = true) ∧ Dp U o ∧ U.getD j false = false ∧
    QS P w0 T0 ops o s0.n (stG ops s0 vs U) (s.rows, s.next) (s.rows, s.next) (vs.getD j .dead) ∧
    ((∀ h, QS P w0 T0 ops o s0.n (stG ops s0 vs U) h h (vs.getD j .dead)) ∨ ∃ x, (j, x) ∈ acc ∧ ∀ h, redoC P w0 T0 s0.n x h → QS P w0 T0 ops o s0.n (stG ops s0 vs U) h h (vs.getD j .dead))
  put : ∀ j o d, V.getD j false = true → ops[j]? = some o → o.dst = some d → d < s0.n

/-- The machine's own place: some that are walked already are late. -/
structure RInv (w0 : World) (T0 : Bs) (H : List (AV × Value)) (ops : Array Oper) (s0 : S) (vs : List AV) (V : Array Bool) (Pd : List Nat) (s : S) (L : Array Bool) (env : List (Nat × AV)) (a : Act) (w : World) : Prop where
  size : L.size = ops.size
  cl : Cl ops L
  sub : ∀ i, L.getD i false = true → V.getD i false = true
  get : ∀ r, S.get ⟨s0.n, env, [], 0⟩ r = stG ops s0 vs L r
  rep : Rep w0 T0 H ⟨s0.n, env, s.rows, s.next⟩ a w
  pd : ∀ i, V.getD i false = true → L.getD i false = false → i ∈ Pd

theorem Cl.set {V : Array Bool} {i : Nat} {o : Oper} (h : Cl ops V) (ho : ops[i]? = some o) (hd : Dp V o) : Cl ops (V.setIfInBounds i true) := by
  intro j oj hj hLj e he hb
  by_cases hij : i = j
  · subst hij
    rw [ho] at hj; cases hj
    exact getD_set_true (hd e he hb)
  · rw [getD_set_ne false hij] at hLj
    exact getD_set_true (h j oj hj hLj e he hb)

/-- The registers after one operation more. -/
theorem stG_put (hok : LexOk ops [] [] T) {s0 : S} {vs : List AV} {V : Array Bool} {i : Nat} {o : Oper} {g : Nat → AV} (ho : ops[i]? = some o) (hs : V.size = ops.size) (hg : ∀ r, g r = stG ops s0 vs V r) :
    ∀ r, (match o.dst with | some d => if d = r then vs.getD i .dead else g r | none => g r) = stG ops s0 vs (V.setIfInBounds i true) r := by
  intro r
  have hilt := (Array.getElem?_eq_some_iff.1 ho).1
  have hV : (V.setIfInBounds i true).getD i false = true := by
    have : i < V.size := by rw [hs]; exact hilt
    simp [this]
  have old : o.dst ≠ some r → g r = stG ops s0 vs (V.setIfInBounds i true) r := by
    intro hne
    rw [hg r]
    unfold stG
    cases hx : dix ops r with
    | none => rfl
    | some j =>
      dsimp only
      have hij : i ≠ j := by
        rintro rfl
        obtain ⟨oj, hj, hdj⟩ := dix_some hx
        rw [ho] at hj; cases hj
        exact hne hdj
      rw [getD_set_ne false hij]
  cases hd : o.dst with
  | none => exact old (by rw [hd]; simp)
  | some d =>
    dsimp only
    by_cases e : d = r
    · subst e
      rw [if_pos rfl]
      unfold stG
      rw [hok.dix ho hd]
      dsimp only
      rw [hV]; rfl
    · rw [if_neg e]
      exact old (by rw [hd]; simpa using e)

theorem get_cons {n d r : Nat} {v : AV} {env : List (Nat × AV)} {R : List (Nat × Item)} {N : Nat} : S.get ⟨n, (d, v) :: env, R, N⟩ r = if d = r then v else S.get ⟨n, env, R, N⟩ r := by
  by_cases e : d = r
  · subst e; simp [S.get, lk]
  · simp [S.get, lk, e]
/-- One more is listed by the machine: its registers and its heap. -/
theorem RInv.more (hok : LexOk ops [] [] T) {s0 : S} {vs : List AV} {L : Array Bool} {env : List (Nat × AV)} {a : Act} {w' : World} {i : Nat} {o : Oper} {R : List (Nat × Item)} {N : Nat} {val : Value}
    (ho : ops[i]? = some o) (hs : L.size = ops.size) (hg : ∀ r, S.get ⟨s0.n, env, [], 0⟩ r = stG ops s0 vs L r) (hput : ∀ d, o.dst = some d → d < s0.n)
    (hr : Rep w0 T0 ((vs.getD i .dead, val) :: H) ⟨s0.n, env, R, N⟩ a w') :
    ∃ env', (∀ r, S.get ⟨s0.n, env', [], 0⟩ r = stG ops s0 vs (L.setIfInBounds i true) r) ∧ Rep w0 T0 H ⟨s0.n, env', R, N⟩ (a.put o.dst val) w' := by
  obtain ⟨m', hm'⟩ := hr
  have hst := stG_put hok (s0 := s0) (vs := vs) ho hs hg
  cases hd : o.dst with
  | none =>
    rw [hd] at hst
    exact ⟨env, hst, m', hm'.unhold⟩
  | some d =>
    rw [hd] at hst
    have h2 := hm'.unhold.putd (hm'.held _ (.head _)) (d := d) (hput d hd)
    exact ⟨(d, vs.getD i .dead) :: env, fun r => by rw [get_cons]; exact hst r, m', h2⟩

end
end Go.Fv

namespace Go.Fv
set_option linter.unusedSectionVars false
open Go.RowKit
set_option linter.unusedVariables false
set_option linter.unusedSimpArgs false
set_option linter.unnecessarySimpa false

theorem mem_accKeep {ks : List Nat} {x : Nat × Acc} (hk : esMem ks x.1 = true) : ∀ {l : List (Nat × Acc)}, x ∈ l → x ∈ accKeep ks l
  | y :: l, h => by
    unfold accKeep
    rcases List.mem_cons.1 h with rfl | h
    · rw [hk]; exact .head _
    · cases esMem ks y.1 with
      | true => exact .tail _ (mem_accKeep hk h)
      | false => exact mem_accKeep hk h
theorem esMem_mem {l : List Nat} {i : Nat} : esMem l i = true ↔ i ∈ l := by
  rw [esMem_eq]; simp

section
variable {P : Program} {w0 : World} {T0 : Bs} {b0 : Nat} {ops : Array Oper} {T : List Nat} {H : List (AV × Value)} [hG : GlB P w0 T0]

theorem redoT_mem {n : Nat} {R : List (Nat × Item)} {N : Nat} {x : Nat × Acc} {l : List (Nat × Acc)} (h : redoT P w0 T0 n R N l) (hx : x ∈ l) : redoC P w0 T0 n x.2 (R, N) := by
  induction l with
  | nil => cases hx
  | cons y l ih =>
    obtain ⟨j, o, g, env, v, ks⟩ := y
    have h1 : redoH P w0 T0 n o g env v R N := h.1
    have h2 : redoT P w0 T0 n R N l := h.2
    rcases List.mem_cons.1 hx with rfl | hx
    · unfold redoH at h1; unfold redoC
      cases g with
      | none => exact h1
      | some c => exact h1
    · exact ih h2 hx

theorem set_getD_self {vs : List AV} {i : Nat} {v : AV} (h : i < vs.length) : (vs.set i v).getD i .dead = v := by
  simp [List.getD_eq_getElem?_getD, h]
theorem set_getD_ne {vs : List AV} {i j : Nat} {v : AV} (h : i ≠ j) : (vs.set i v).getD j .dead = vs.getD j .dead := by
  simp [List.getD_eq_getElem?_getD, List.getElem?_set, h]

theorem putS_get (hok : LexOk ops [] [] T) {s0 s : S} {vs : List AV} {V : Array Bool} {i : Nat} {o : Oper} {v : AV} {R : List (Nat × Item)} {N : Nat} (ho : ops[i]? = some o) (hs : V.size = ops.size) (hl : vs.length = ops.size) (hV : V.getD i false = false) (hg : ∀ r, s.get r = stG ops s0 vs V r) :
    ∀ r, (putS o.dst v ⟨s.n, s.env, R, N⟩).get r = stG ops s0 (vs.set i v) (V.setIfInBounds i true) r := by
  intro r
  have hilt := (Array.getElem?_eq_some_iff.1 ho).1
  have h := stG_put hok (s0 := s0) (vs := vs.set i v) (g := s.get) ho hs (fun r => (hg r).trans (stG_set hV r).symm) r
  rw [set_getD_self (by omega)] at h
  rw [← h]
  unfold putS
  cases o.dst with
  | none => rfl
  | some d => exact get_cons

theorem VInv.quiet (hok : LexOk ops [] [] T) {s0 s : S} {vs : List AV} {V : Array Bool} {Pd : List Nat} {acc acc' : List (Nat × Acc)} {i : Nat} {o : Oper} {v : AV} (hv : VInv P w0 T0 ops s0 vs V Pd acc s) (ho : ops[i]? = some o) (hd : Dp V o) (hV : V.getD i false = false)
    (hq : QS P w0 T0 ops o s.n s.get (s.rows, s.next) (s.rows, s.next) v) (hr : (∀ h, QS P w0 T0 ops o s.n s.get h h v) ∨ ∃ x, (i, x) ∈ acc' ∧ ∀ h, redoC P w0 T0 s.n x h → QS P w0 T0 ops o s.n s.get h h v)
    (hsub : ∀ x, x ∈ acc → x ∈ acc') (hdst : dstOk o.dst s.n) : VInv P w0 T0 ops s0 (vs.set i v) (V.setIfInBounds i true) (i :: Pd) acc' (putS o.dst v s) := by
  have hilt := (Array.getElem?_eq_some_iff.1 ho).1
  have hVs : (V.setIfInBounds i true).getD i false = true := by
    have : i < V.size := by rw [hv.vsize]; exact hilt
    simp [this]
  have hup : ∀ j, V.getD j false = true → (V.setIfInBounds i true).getD j false = true := fun j hj => getD_set_true hj
  have hrows : (putS o.dst v s).rows = s.rows ∧ (putS o.dst v s).next = s.next ∧ (putS o.dst v s).n = s.n := by
    unfold putS; cases o.dst <;> exact ⟨rfl, rfl, rfl⟩
  have conv : ∀ {h h' : HpS}, QS P w0 T0 ops o s.n s.get h h' v → QS P w0 T0 ops o s0.n (stG ops s0 (vs.set i v) V) h h' ((vs.set i v).getD i .dead) := by
    intro h h' hh
    rw [set_getD_self (by rw [hv.vlen]; exact hilt), ← hv.n]
    exact hh.congr fun r _ => by rw [stG_set hV]; exact (hv.sget r).symm
  refine ⟨by simpa using hv.vsize, by simpa using hv.vlen, hv.cl.set ho hd, by rw [hrows.2.2]; exact hv.n, ?_, ?_, ?_⟩
  · exact putS_get hok (R := s.rows) (N := s.next) ho hv.vsize hv.vlen hV hv.sget
  · intro j hj
    rcases List.mem_cons.1 hj with rfl | hj
    · refine ⟨hVs, fun o' ho' => ?_⟩
      rw [ho] at ho'; cases ho'
      refine ⟨V, hv.vsize, hv.cl, hup, hd, hV, ?_, ?_⟩
      · rw [hrows.1, hrows.2.1]; exact conv hq
      · rcases hr with h | ⟨x, hx, h⟩
        · exact .inl fun h' => conv (h h')
        · exact .inr ⟨x, hx, fun h' hc => conv (h h' (by rw [hv.n]; exact hc))⟩
    · obtain ⟨h1, h2⟩ := hv.pd j hj
      have hne : i ≠ j := by rintro rfl; rw [hV] at h1; cases h1
      refine ⟨hup j h1, fun o' ho' => ?_⟩
      obtain ⟨U, u1, u2, u3, u4, u5, u6, u7⟩ := h2 o' ho'
      have hUi : U.getD i false = false := by
        cases hu : U.getD i false with
        | false => rfl
        | true => have := u3 i hu; rw [hV] at this; cases this
      have cv : ∀ {h h' : HpS}, QS P w0 T0 ops o' s0.n (stG ops s0 vs U) h h' (vs.getD j .dead) → QS P w0 T0 ops o' s0.n (stG ops s0 (vs.set i v) U) h h' ((vs.set i v).getD j .dead) := by
        intro h h' hh
        rw [set_getD_ne hne]
        exact hh.congr fun r _ => stG_set hUi r
      refine ⟨U, u1, u2, fun k hk => hup k (u3 k hk), u4, u5, ?_, ?_⟩
      · rw [hrows.1, hrows.2.1]; exact cv u6
      · rcases u7 with h | ⟨x, hx, h⟩
        · exact .inl fun h' => cv (h h')
        · exact .inr ⟨x, hsub _ hx, fun h' hc => cv (h h' hc)⟩
  · intro j oj d hj hoj hdj
    by_cases e : i = j
    · subst e
      rw [ho] at hoj; cases hoj
      rw [hdj] at hdst
      rw [← hv.n]; exact hdst
    · rw [getD_set_ne false e] at hj
      exact hv.put j oj d hj hoj hdj

theorem VInv.eff (hok : LexOk ops [] [] T) {s0 s : S} {vs : List AV} {V : Array Bool} {Pd ks : List Nat} {acc : List (Nat × Acc)} {i : Nat} {o : Oper} {v : AV} {R : List (Nat × Item)} {N : Nat} (hv : VInv P w0 T0 ops s0 vs V Pd acc s) (ho : ops[i]? = some o) (hd : Dp V o) (hV : V.getD i false = false)
    (hks : ∀ j, j ∈ ks → j ∈ Pd) (hre : redoT P w0 T0 s.n R N (accKeep ks acc)) (hdst : dstOk o.dst s.n) : VInv P w0 T0 ops s0 (vs.set i v) (V.setIfInBounds i true) ks (accKeep ks acc) (putS o.dst v ⟨s.n, s.env, R, N⟩) := by
  have hilt := (Array.getElem?_eq_some_iff.1 ho).1
  have hup : ∀ j, V.getD j false = true → (V.setIfInBounds i true).getD j false = true := fun j hj => getD_set_true hj
  have hrows : (putS o.dst v ⟨s.n, s.env, R, N⟩).rows = R ∧ (putS o.dst v ⟨s.n, s.env, R, N⟩).next = N ∧ (putS o.dst v ⟨s.n, s.env, R, N⟩).n = s.n := by
    unfold putS; cases o.dst <;> exact ⟨rfl, rfl, rfl⟩
  refine ⟨by simpa using hv.vsize, by simpa using hv.vlen, hv.cl.set ho hd, by rw [hrows.2.2]; exact hv.n, ?_, ?_, ?_⟩
  · exact putS_get hok ho hv.vsize hv.vlen hV hv.sget
  · intro j hj
    obtain ⟨h1, h2⟩ := hv.pd j (hks j hj)
    have hne : i ≠ j := by rintro rfl; rw [hV] at h1; cases h1
    refine ⟨hup j h1, fun o' ho' => ?_⟩
    obtain ⟨U, u1, u2, u3, u4, u5, u6, u7⟩ := h2 o' ho'
    have hUi : U.getD i false = false := by
      cases hu : U.getD i false with
      | false => rfl
      | true => have := u3 i hu; rw [hV] at this; cases this
    have cv : ∀ {h h' : HpS}, QS P w0 T0 ops o' s0.n (stG ops s0 vs U) h h' (vs.getD j .dead) → QS P w0 T0 ops o' s0.n (stG ops s0 (vs.set i v) U) h h' ((vs.set i v).getD j .dead) := by
      intro h h' hh
      rw [set_getD_ne hne]
      exact hh.congr fun r _ => stG_set hUi r
    refine ⟨U, u1, u2, fun k hk => hup k (u3 k hk), u4, u5, ?_, ?_⟩
    · rw [hrows.1, hrows.2.1]
      rcases u7 with h | ⟨x, hx, h⟩
      · exact cv (h _)
      · have := redoT_mem hre (mem_accKeep (x := (j, x)) (esMem_mem.2 hj) hx)
        rw [hv.n] at this
        exact cv (h _ this)
    · rcases u7 with h | ⟨x, hx, h⟩
      · exact .inl fun h' => cv (h h')
      · exact .inr ⟨x, mem_accKeep (x := (j, x)) (esMem_mem.2 hj) hx, fun h' hc => cv (h h' hc)⟩
  · intro j oj d hj hoj hdj
    by_cases e : i = j
    · subst e
      rw [ho] at hoj; cases hoj
      rw [hdj] at hdst
      rw [← hv.n]; exact hdst
    · rw [getD_set_ne false e] at hj
      exact hv.put j oj d hj hoj hdj

end
end Go.Fv

/-
  Families of rows: as many owned rows as a list tells, with names one behind the other.
-/
namespace Go.Fv
set_option linter.unusedSectionVars false
set_option linter.unusedVariables false
set_option linter.unusedSimpArgs false

section
variable {w0 : World} {T0 : Bs} {b0 : Nat}
end
/-! ### Renamings by hand -/
def p1 (a K x : Nat) : Nat := if x = a then K else x
def p2 (a K a' K' x : Nat) : Nat := if x = a then K else if x = a' then K' else x
end Go.Fv

/-
  An owned row becomes data, wherever the state speaks of it.
-/
namespace Go.Fv
set_option linter.unusedSectionVars false
open Go.RowKit
set_option linter.unusedVariables false
set_option linter.unusedSimpArgs false
set_option linter.unnecessarySimpa false

mutual
def fz (k : Nat) (r : RowV) : AV → AV
  | .own i => if i = k then .ro r else .own i
  | .ptr i o => .ptr i o
  | .elt i a b c => .elt i a b c
  | .pre i n => .pre i n
  | .agg cs => .agg (fzL k r cs)
  | .tup cs => .tup (fzL k r cs)
  | .fn f cs => .fn f (fzL k r cs)
  | .cell cs => .cell cs
  | .dead => .dead
  | .nilS => .nilS
  | .bool b => .bool b
  | .int q n => .int q n
  | .str s => .str s
  | .ro r => .ro r
  | .raw v => .raw v
  | .opt b v => .opt b (fz k r v)
  | .mp ks vs => .mp ks vs
def fzL (k : Nat) (r : RowV) : List AV → List AV
  | [] => []
  | x :: l => fz k r x :: fzL k r l
end
def fzR (k : Nat) (q : RowV) : RowV → RowV
  | .objs sz l => .objs sz (l.map (fzL k q))
  | .bools l => .bools l
  | .ints k l => .ints k l
  | .strs l => .strs l
def fzI (k : Nat) (q : RowV) : Item → Item
  | .row e r => .row e (fzR k q r)
  | .box e cs => .box e (fzL k q cs)
  | .map ks vs => .map (fzL k q ks) (fzL k q vs)
  | .iter mp since seen => .iter mp since seen
  | .siter t pos => .siter t pos
def fzE (k : Nat) (q : RowV) : List (Nat × AV) → List (Nat × AV)
  | [] => []
  | (i, v) :: l => (i, fz k q v) :: fzE k q l
def fzRows (k : Nat) (q : RowV) : List (Nat × Item) → List (Nat × Item)
  | [] => []
  | (i, it) :: l => if i = k then fzRows k q l else (i, fzI k q it) :: fzRows k q l
def S.fz (s : S) (k : Nat) (r : RowV) : S := { s with env := fzE k r s.env, rows := fzRows k r s.rows }

theorem lk_fzE (k : Nat) (q : RowV) : ∀ (l : List (Nat × AV)) (i : Nat), lk (fzE k q l) i = (lk l i).map (fz k q)
  | [], i => rfl
  | (j, v) :: l, i => by
    simp only [fzE, lk]
    split
    · rfl
    · exact lk_fzE k q l i
theorem lk_fzRows (k : Nat) (q : RowV) : ∀ (l : List (Nat × Item)) (i : Nat), lk (fzRows k q l) i = if i = k then none else (lk l i).map (fzI k q)
  | [], i => by simp [fzRows, lk]
  | (j, v) :: l, i => by
    simp only [fzRows]
    split
    · rename_i e; subst e
      rw [lk_fzRows]
      by_cases h : i = j
      · simp [h]
      · simp only [if_neg h, lk]; rw [if_neg (fun e => h e.symm)]
    · rename_i e
      simp only [lk]
      split
      · rename_i e2; subst e2; rw [if_neg e]; rfl
      · exact lk_fzRows k q l i

mutual
theorem fz_below {k : Nat} {r : RowV} (n : Nat) : ∀ x : AV, below n x = true → below n (fz k r x) = true
  | .own i, h => by
    simp only [fz]; split
    · rfl
    · exact h
  | .ptr i o, h => h
  | .elt i a b c, h => h
  | .pre i n, h => h
  | .agg cs, h => by simp only [fz, below] at *; exact fzL_below n cs h
  | .tup cs, h => by simp only [fz, below] at *; exact fzL_below n cs h
  | .fn f cs, h => by simp only [fz, below] at *; exact fzL_below n cs h
  | .cell cs, _ => rfl
  | .dead, _ => rfl
  | .nilS, _ => rfl
  | .bool _, _ => rfl
  | .int _ _, _ => rfl
  | .str _, _ => rfl
  | .ro _, _ => rfl
  | .raw _, _ => rfl
  | .opt _ v, h => by simp only [fz, below] at *; exact fz_below n v h
  | .mp _ _, _ => rfl
theorem fzL_below {k : Nat} {r : RowV} (n : Nat) : ∀ x : List AV, belowL n x = true → belowL n (fzL k r x) = true
  | [], _ => rfl
  | x :: l, h => by
    simp only [belowL, Bool.and_eq_true] at h
    simp [fzL, belowL, fz_below n x h.1, fzL_below n l h.2]
end
mutual
theorem fz_low (k : Nat) (r : RowV) (b0 : Nat) (hb : b0 ≤ k) : ∀ x : AV, below b0 x = true → fz k r x = x
  | .own i, h => by
    simp only [below, decide_eq_true_eq] at h
    simp only [fz]; rw [if_neg (by omega)]
  | .ptr i o, h => rfl
  | .elt i a b c, h => rfl
  | .pre i n, h => rfl
  | .agg cs, h => by simp only [fz]; rw [fzL_low k r b0 hb cs (by simpa [below] using h)]
  | .tup cs, h => by simp only [fz]; rw [fzL_low k r b0 hb cs (by simpa [below] using h)]
  | .fn f cs, h => by simp only [fz]; rw [fzL_low k r b0 hb cs (by simpa [below] using h)]
  | .cell cs, _ => rfl
  | .dead, _ => rfl
  | .nilS, _ => rfl
  | .bool _, _ => rfl
  | .int _ _, _ => rfl
  | .str _, _ => rfl
  | .ro _, _ => rfl
  | .raw _, _ => rfl
  | .mp _ _, _ => rfl
  | .opt b v, h => by simp only [fz]; rw [fz_low k r b0 hb v (by simpa [below] using h)]
theorem fzL_low (k : Nat) (r : RowV) (b0 : Nat) (hb : b0 ≤ k) : ∀ x : List AV, belowL b0 x = true → fzL k r x = x
  | [], _ => rfl
  | x :: l, h => by
    simp only [belowL, Bool.and_eq_true] at h
    simp only [fzL]; rw [fz_low k r b0 hb x h.1, fzL_low k r b0 hb l h.2]
end
structure CtxFz (k : Nat) (r : RowV) (c c' : Ctx) : Prop where
  n : c'.N = c.N
  m : c'.m = c.m
  t : ∀ b, c.T b → b < c.w.heap.size → c'.T b ∧ c'.w.heap[b]? = c.w.heap[b]?
  ro : Rv c' (.ro r) (c.m k)

mutual
theorem Rv.fz {k : Nat} {r : RowV} {c c' : Ctx} (h : CtxFz k r c c') : ∀ {x : AV} {v : Value}, Rv c x v → Rv c' (Fv.fz k r x) v
  | _, _, .dead v => .dead v
  | _, _, .nilS => .nilS
  | _, _, .bool b => .bool b
  | _, _, .int q n hk => .int q n hk
  | _, _, .str s hs => .str s hs
  | _, _, .roNil r hr hi => .roNil r (RowC.noid h.t hr hi) hi
  | _, _, .ro r a len cap cells hr hl hc hm hs hi => .ro r a len cap cells (RowC.noid h.t hr hi) hl hc hm (hs.mono' h.t) hi
  | _, _, .mp ks vs g es clock hk hv hb hc hT hh hi hi2 => .mp ks vs g es clock (RvT.noid h.t hk hi) (RvT.noid h.t hv hi2) hb hc (h.t g hT (Array.getElem?_eq_some_iff.1 hh).1).1 (by rw [(h.t g hT (Array.getElem?_eq_some_iff.1 hh).1).2]; exact hh) hi hi2
  | _, _, .own i hi h1 => by
    simp only [Fv.fz]
    split
    · rename_i e; subst e; exact h.ro
    · rw [← h.m]; exact .own i (by rw [h.n]; exact hi) (by rw [h.m]; exact h1)
  | _, _, .cell cs vs a hl hi hs => .cell cs vs a (RvL.noid h.t hl hi) hi (hs.mono' h.t)
  | _, _, .ptr i off g hi hg => .ptr i off g (by rw [h.n]; exact hi) (by rw [h.m]; exact hg)
  | _, _, .elt i a b d g hi hg => .elt i a b d g (by rw [h.n]; exact hi) (by rw [h.m]; exact hg)
  | _, _, .pre i n l cap a hi hv hn => .pre i n l cap a (by rw [h.n]; exact hi) (by rw [h.m]; exact hv) hn
  | _, _, .agg cs vs hl => .agg _ vs (RvL.fz h hl)
  | _, _, .tup cs vs hl => .tup _ vs (RvT.fz h hl)
  | _, _, .fn f cs vs hl => .fn f _ vs (RvT.fz h hl)
  | _, _, .raw v => .raw v
  | _, _, .opt b x v hb hx h2 => .opt b _ v (by rw [h.n]; exact fz_below _ _ hb) (fun e => Rv.fz h (hx e)) h2
theorem RvL.fz {k : Nat} {r : RowV} {c c' : Ctx} (h : CtxFz k r c c') : ∀ {x : List AV} {v : List Value}, RvL c x v → RvL c' (fzL k r x) v
  | _, _, .nil => .nil
  | _, _, .cons x v l vs hx h1 ht => .cons _ v _ vs (Rv.fz h hx) h1 (RvL.fz h ht)
theorem RvT.fz {k : Nat} {r : RowV} {c c' : Ctx} (h : CtxFz k r c c') : ∀ {x : List AV} {v : List Value}, RvT c x v → RvT c' (fzL k r x) v
  | _, _, .nil => .nil
  | _, _, .cons x v l vs hx ht => .cons _ v _ vs (Rv.fz h hx) (RvT.fz h ht)
end
theorem ObjsC.fz {k : Nat} {r : RowV} {c c' : Ctx} (h : CtxFz k r c c') : ∀ {sz : Nat} {x : List (List AV)} {v : List Value}, ObjsC c sz x v → ObjsC c' sz (x.map (fzL k r)) v
  | _, _, _, .nil sz => .nil sz
  | _, _, _, .cons sz o vs l cells ho hl ht => .cons sz _ vs _ cells (ho.fz h) hl (ht.fz h)
theorem RowC.fz {k : Nat} {q : RowV} {c c' : Ctx} (h : CtxFz k q c c') {x : RowV} {v : List Value} (hr : RowC c x v) : RowC c' (fzR k q x) v := by
  cases hr with
  | bools l => exact .bools l
  | ints k l hk => exact .ints k l hk
  | strs l hs => exact .strs l hs
  | objs sz l cells hz ho => exact .objs sz _ _ hz (ho.fz h)
theorem fzR_len (k : Nat) (q r : RowV) : (fzR k q r).len = r.len := by cases r <;> simp [fzR, RowV.len]
theorem fzR_sz (k : Nat) (q r : RowV) : (fzR k q r).sz = r.sz := by cases r <;> rfl
theorem ItemOk.fz {k : Nat} {q : RowV} {c c' : Ctx} (h : CtxFz k q c c') (hw : c'.w = c.w) {O : Nat → Prop} {v : Value} {it : Item} (hi : ItemOk c O v it) : ItemOk c' O v (fzI k q it) := by
  cases it with
  | row e r =>
    obtain ⟨n, cells, hr, hn, ho, hO⟩ := hi
    exact ⟨n, cells, hr.fz h, by rw [fzR_len]; exact hn, by rw [fzR_sz, hw]; exact ho, hO⟩
  | box e cs => obtain ⟨g, vs, rfl, hg, hl, hh⟩ := hi; exact ⟨g, vs, rfl, hg, hl.fz h, by rw [hw]; exact hh⟩
  | map ks vs => obtain ⟨g, es, clock, rfl, hg, h1, h2, h3, h4, hh⟩ := hi; exact ⟨g, es, clock, rfl, hg, h1.fz h, h2.fz h, h3, h4, by rw [hw]; exact hh⟩
  | iter mp since seen => obtain ⟨g, p, sn, last, rfl, hg, h1, h2, h3, h4, hh⟩ := hi; exact ⟨g, p, sn, last, rfl, hg, by rw [h.n]; exact h1, by rw [h.m]; exact h2, h3, h4, by rw [hw]; exact hh⟩
  | siter t pos => obtain ⟨g, rfl, hg, hh⟩ := hi; exact ⟨g, rfl, hg, by rw [hw]; exact hh⟩
section
variable {w0 : World} {T0 : Bs} {b0 : Nat}
/-- AN OWNED ROW BECOMES DATA. -/
theorem Ent.fz (k : Nat) {s : S} {e : TypeId} {r : RowV} (hk : lk s.rows k = some (.row e r)) (hid : noIdR r = true) (hb : b0 ≤ k) : Ent w0 T0 b0 s (s.fz k r) := by
  rintro H a w hH ⟨m, hm⟩
  have hsub : ∀ i it, lk (s.fz k r).rows i = some it → i ≠ k ∧ ∃ jt, lk s.rows i = some jt ∧ it = fzI k r jt := by
    intro i it hi
    simp only [S.fz, lk_fzRows] at hi
    split at hi
    · cases hi
    · rename_i hne
      cases hq : lk s.rows i with
      | none => rw [hq] at hi; cases hi
      | some jt => rw [hq] at hi; cases hi; exact ⟨hne, jt, rfl, rfl⟩
  have hdel : ∀ i it, lk (del s.rows k) i = some it → lk s.rows i = some it := del_sub _ _
  have hro := own_ro hm hk hdel (by rw [lk_del, if_pos rfl]) hid
  have hT : ∀ b, allow T0 w0.heap.size m (del s.rows k) b → allow T0 w0.heap.size m (s.fz k r).rows b := by
    rintro b ⟨h1, h2⟩
    refine ⟨h1, fun i it hi e => ?_⟩
    obtain ⟨hne, jt, hj, _⟩ := hsub i it hi
    exact h2 i jt (by rw [lk_del, if_neg hne]; exact hj) e
  have hc : CtxFz k r (ctxOf T0 w0.heap.size m s w) (ctxOf T0 w0.heap.size m (s.fz k r) w) :=
    { n := rfl, m := rfl,
      t := by
        intro b ⟨h1, h2⟩ _
        exact ⟨hT b ⟨h1, fun i it hi => h2 i it (hdel i it hi)⟩, rfl⟩,
      ro := by
        refine Rv.noid (c := ctxOf T0 w0.heap.size m { s with rows := del s.rows k } w) ?_ hro rfl
        intro b hb _
        exact ⟨hT b hb, rfl⟩ }
  refine ⟨m, { size := hm.size, nodef := hm.nodef, below := hm.below, env := ?_, held := ?_, rows := ?_, sep := ?_ }⟩
  · intro q v hv
    simp only [S.fz, lk_fzE] at hv
    cases hq : lk s.env q with
    | none => rw [hq] at hv; cases hv
    | some y => rw [hq] at hv; cases hv; exact (hm.env q y hq).fz hc
  · intro p hp
    have h1 := (hm.held p hp).fz hc
    have h2 : Fv.fz k r p.1 = p.1 := by
      have hlow := hH p hp
      exact fz_low k r b0 hb p.1 hlow
    rwa [h2] at h1
  · intro i it hi
    obtain ⟨hne, jt, hj, rfl⟩ := hsub i it hi
    exact ⟨(hm.rows i jt hj).1, (hm.rows i jt hj).2.fz hc rfl⟩
  · intro i j it jt b hi hj hbi hbj
    obtain ⟨_, it', hi', _⟩ := hsub i it hi
    obtain ⟨_, jt', hj', _⟩ := hsub j jt hj
    exact hm.sep i j it' jt' b hi' hj' hbi hbj
end
attribute [go_sem] fz fzL fzR fzI fzE fzRows S.fz
end Go.Fv

/-
  The set by which states are held against one another.
-/
namespace Go.Fv
set_option linter.unusedSectionVars false
theorem renL_rep (p : Nat → Nat) (x : AV) : ∀ n : Nat, renL p (List.replicate n x) = List.replicate n (ren p x)
  | 0 => rfl
  | n + 1 => by simp only [List.replicate_succ, renL]; rw [renL_rep p x n]
theorem belowL_rep {N : Nat} {x : AV} (h : below N x = true) : ∀ n : Nat, belowL N (List.replicate n x) = true
  | 0 => rfl
  | n + 1 => by simp only [List.replicate_succ, belowL, h, Bool.true_and]; exact belowL_rep h n
theorem noIdL_rep {x : AV} (h : noId x = true) : ∀ n : Nat, noIdL (List.replicate n x) = true
  | 0 => rfl
  | n + 1 => by simp only [List.replicate_succ, noIdL, h, Bool.true_and]; exact noIdL_rep h n
theorem mkL_rep {x : AV} (h : noId x = true) (n : Nat) (y : List AV) : mkL (List.replicate n x) y = [] := mkL_noId _ y (noIdL_rep h n)
theorem belowL_repb (N n : Nat) (b : Bool) : belowL N (List.replicate n (AV.bool b)) = true := belowL_rep rfl n
theorem belowL_repi (N n : Nat) (k : IntKind) (i : Int) : belowL N (List.replicate n (AV.int k i)) = true := belowL_rep rfl n
theorem mkL_repb (n : Nat) (b : Bool) (y : List AV) : mkL (List.replicate n (AV.bool b)) y = [] := mkL_rep rfl n y
theorem mkL_repi (n : Nat) (k : IntKind) (i : Int) (y : List AV) : mkL (List.replicate n (AV.int k i)) y = [] := mkL_rep rfl n y
attribute [go_sem] mkR_ok mkL_bools mkL_ints rets rets1 retV mkRet tupOf envOk subOk mkRen mkEnv mkRows mkItem mkV mkL pm Item.below AV.own.injEq AV.str.injEq AV.ro.injEq AV.agg.injEq AV.tup.injEq List.cons.injEq Option.some.injEq Item.row.injEq Item.box.injEq RowV.ints.injEq RowV.bools.injEq RowV.strs.injEq RowV.objs.injEq Nat.succ_ne_self renL_rep belowL_repb belowL_repi mkL_repb mkL_repi
attribute [go_sem] accKeep redoT redoH
end Go.Fv

/-
  Steps of a walk that pay their side conditions by themselves.
-/
namespace Go.Fv
set_option linter.unusedSectionVars false
set_option linter.unusedVariables false
theorem Chk.g {p K : Prop} (k : K) (h : p := by first | omega | (with_reducible refine Chk.intro ?_ ?_ <;> omega) | (simp; done) | (simp; omega)) : Chk p K := ⟨h, k⟩
theorem LetW.g {e : Int} {K : Int → Prop} (kk : K e) (h1 : -9223372036854775808 ≤ e := by omega) (h2 : e ≤ 9223372036854775807 := by omega) : LetW .i64 e K := LetW.i64 h1 h2 kk
theorem LetW.h {e : Int} {K : Int → Prop} (kk : K e) (h1 : 0 ≤ e := by omega) (h2 : e ≤ 255 := by omega) : LetW .u8 e K := LetW.u8 h1 h2 kk
theorem Ite.t {p : Prop} [Decidable p] {x y : Prop} (k : p → x) (h : ¬ p → False := by (intro _; omega)) : @Ite (Decidable.decide p) ⟨x⟩ ⟨y⟩ := Ite.decide k fun h' => (h h').elim
theorem Ite.f {p : Prop} [Decidable p] {x y : Prop} (k : ¬ p → y) (h : p → False := by (intro _; omega)) : @Ite (Decidable.decide p) ⟨x⟩ ⟨y⟩ := Ite.decide (fun h' => (h h').elim) k
/-- A step that asks for nothing: what is to be shown instead. -/
class Stp (p : Prop) (q : outParam Prop) : Prop where
  go : q → p
instance {p K : Prop} : Stp (Asm p K) (p → K) := ⟨Asm.intro⟩
instance {K : Int → Prop} : Stp (@AnyI .i64 ⟨K⟩) (∀ n, (-9223372036854775808 ≤ n ∧ n ≤ 9223372036854775807) → K n) := ⟨AnyI.i64⟩
instance (priority := 900) {b : Bool} {x y : Prop} : Stp (@Ite b ⟨x⟩ ⟨y⟩) ((b = true → x) ∧ (b = false → y)) := ⟨fun h => Ite.bool h.1 h.2⟩
instance {p : Prop} [Decidable p] {x y : Prop} : Stp (@Ite (Decidable.decide p) ⟨x⟩ ⟨y⟩) ((p → x) ∧ (¬ p → y)) := ⟨fun h => Ite.decide h.1 h.2⟩
theorem rs {p q : Prop} [h : Stp p q] (k : q) : p := h.go k
theorem rc {p K : Prop} (k : K) (h : p := by first | omega | (with_reducible refine Chk.intro ?_ ?_ <;> omega) | (simp; done) | (simp; omega)) : Chk p K := ⟨h, k⟩
theorem rl {e : Int} {K : Int → Prop} (k : K e) (h1 : -9223372036854775808 ≤ e := by omega) (h2 : e ≤ 9223372036854775807 := by omega) : LetW .i64 e K := LetW.i64 h1 h2 k
theorem rh {e : Int} {K : Int → Prop} (k : K e) (h1 : 0 ≤ e := by omega) (h2 : e ≤ 255 := by omega) : LetW .u8 e K := LetW.u8 h1 h2 k
theorem rt {p : Prop} [Decidable p] {x y : Prop} (k : p → x) (h : ¬ p → False := by (intro _; omega)) : @Ite (Decidable.decide p) ⟨x⟩ ⟨y⟩ := Ite.decide k fun h' => (h h').elim
theorem rf {p : Prop} [Decidable p] {x y : Prop} (k : ¬ p → y) (h : p → False := by (intro _; omega)) : @Ite (Decidable.decide p) ⟨x⟩ ⟨y⟩ := Ite.decide (fun h' => (h h').elim) k
theorem ru {k : IntKind} {e : Int} {K : Int → Prop} (kk : K e) (h : (k = .u64 ∧ 0 ≤ e ∧ e ≤ 18446744073709551615) ∨ (k = .u32 ∧ 0 ≤ e ∧ e ≤ 4294967295) ∨ (k = .i32 ∧ -2147483648 ≤ e ∧ e ≤ 2147483647) := by
    first | (refine Or.inl ⟨rfl, ?_, ?_⟩ <;> omega) | (refine Or.inr (Or.inl ⟨rfl, ?_, ?_⟩) <;> omega) | (refine Or.inr (Or.inr ⟨rfl, ?_, ?_⟩) <;> omega)) : LetW k e K := by
  rcases h with ⟨rfl, h1, h2⟩ | ⟨rfl, h1, h2⟩ | ⟨rfl, h1, h2⟩
  · exact LetW.inR (InK_u64.2 ⟨h1, h2⟩) kk
  · exact LetW.inR (InK_u32.2 ⟨h1, h2⟩) kk
  · exact LetW.inR (InK_i32.2 ⟨h1, h2⟩) kk
/-- Out of range: by the value. -/
theorem LetW.at {k : IntKind} {e : Int} {K : Int → Prop} (m : Int) (h : k.wrap e = m) (kk : K m) : LetW k e K := fun n hn _ => by rw [hn, h]; exact kk
/-- A call by a contract that hands nothing over. -/
theorem VcCall.k {P : Program} {w0 : World} {T0 : Bs} [hG : GlB P w0 T0] {f : Nat} {args args' : List AV} {out : AV} {s : S} {K : AV → S → Prop} (h : FnOk P f args' out []) (hk : K (ren (fun j => s.next + j) out) (s.after s.rows 0 []))
    (h1 : noRo out = true := by rfl) (h2 : Fv.below 0 out = true := by rfl) (ha : argOkL s.rows args args' := by
      simp only [noIdR_ok, argOkL, argOk, allOk, argOkN, List.drop_zero, lk, reduceIte, reduceCtorEq, Nat.reduceEqDiff, Option.some.injEq, Item.row.injEq, Item.box.injEq, AV.ro.injEq, exists_eq_left, exists_and_left, exists_eq_left', exists_eq_right, and_assoc, and_true, true_and, List.cons.injEq, exists_eq', exists_eq]) :
    @VcCall P w0 T0 f args s ⟨K⟩ := VcCall.fr (FnFr.of_ok h h1 rfl) ha 0 h2 trivial hk
end Go.Fv

/-
  What a row's first world gives of package-level integers.
-/
namespace Go.Fv
set_option linter.unusedSectionVars false
open Go.RowKit Go.ChangeShapes Go.WideShapes
set_option linter.unusedVariables false
set_option linter.unusedSimpArgs false

def shBlk (w : World) (P : Program) (g : Nat) (k : IntKind) : Bool := match (w.heap[g]?).bind Obj.row? with
  | some (zero, t) => decide (zero.size = 1) && P.buildable t && decide (P.cellTypes P.depth t = some [t]) && (match P.underlying t with | some (.int k') => decide (k' = k) | _ => false)
  | none => false
/-- Each package-level variable of an integer type has one cell of that type. -/
def shOkT (P : Program) : Bool := (List.range P.globals.size).all fun g => match intGl P g with
  | some k => shBlk (begin P (fun _ _ => 0) default).world P g k
  | none => true
theorem GlOk.of_shapedT {P : Program} {w : World} (hs : shOkT P = true) (h : w.ShapedOpen P) (htab : ∀ g, tabGl P g = true → ∃ ob, w.heap[g]? = some ob ∧ GkAt .tab ob) : GlOk P w := by
  suffices hI : ∀ g k, intGl P g = some k → ∃ (n : Int) (t : TypeId), InK k n ∧ w.heap[g]? = some (.cells #[.int k n] t (0, 0)) by
    intro g k hg
    unfold glK at hg
    split at hg
    · rename_i k' hk
      cases hg
      obtain ⟨n, t, h1, h2⟩ := hI g k' hk
      exact ⟨_, h2, n, t, h1, rfl⟩
    · split at hg
      · rename_i ht
        cases hg
        exact htab g ht
      · cases hg
  intro g k hg
  have hlt : g < P.globals.size := by
    by_cases hlt : g < P.globals.size
    · exact hlt
    · unfold intGl at hg
      rw [Array.getElem?_eq_none (Nat.le_of_not_lt hlt)] at hg
      cases hg
  have h1 := List.all_eq_true.1 hs g (List.mem_range.2 hlt)
  rw [hg] at h1
  dsimp only at h1
  unfold shBlk at h1
  split at h1
  · rename_i zero t hz
    simp only [Bool.and_eq_true, decide_eq_true_eq] at h1
    obtain ⟨⟨⟨hz1, hb⟩, hc⟩, hu⟩ := h1
    have hu : P.underlying t = some (.int k) := by
      split at hu
      · rename_i k' e; rw [e, of_decide_eq_true hu]
      · cases hu
    obtain ⟨cs, hh, hsz, hr⟩ := h.1 g zero t hlt hz
    obtain ⟨ts, hts, _, hall⟩ := hr hb
    rw [hc] at hts
    cases hts
    have h1 : 0 < cs.size := by omega
    obtain ⟨u, hu', hok⟩ := hall 0 cs[0] (by simp [h1])
    have : u = t := by simpa using hu'.symm
    subst this
    unfold Cell.ok at hok
    rw [hu] at hok
    have e : cs = #[cs[0]] := by
      apply Array.ext
      · simp; omega
      · intro i h1 h2
        simp at h2
        subst h2; simp
    cases hv : cs[0] <;> rw [hv] at hok <;> simp at hok
    case int k' n =>
      obtain ⟨rfl, hk⟩ := hok
      refine ⟨n, u, ?_, by rw [hh, e, hv]⟩
      exact hk
  · cases h1
variable {H : Type} {enc : TypeId × Value → H}
end Go.Fv

/-
  What a row's laid table gives of math/bits.deBruijn64tab.
-/
namespace Go.Fv
set_option linter.unusedSectionVars false
open Go.RowKit Go.ChangeShapes Go.WideShapes
set_option linter.unusedVariables false
set_option linter.unusedSimpArgs false

def tabD : DataW Unit := Lib.tabData .u8 (Lib.deBruijn64tab.map Int.ofNat)
theorem tab_of_laid {P : Program} {W : World} {l : List (String × DataW Unit)} {g0 : Nat} {t e : TypeId} (hl : (l.filter fun x => x.1 == "math/bits.deBruijn64tab") = [("math/bits.deBruijn64tab", tabD)]) (hh : tabD.handleName? = none)
    (hg : P.globalNamed "math/bits.deBruijn64tab" = some g0) (hty : (P.globals[g0]?).map (·.type) = some t) (ht : P.underlying t = some (.array 64 e)) (he : P.underlying e = some (.int .u8)) (hce : P.cellsOf e = 1) (hct : P.cellsOf t = 64)
    (hu : ((List.range P.globals.size).all fun g => tabGl P g == (g == g0)) = true) (h : laidMetH P l W) : ∀ g, tabGl P g = true → ∃ ob, W.heap[g]? = some ob ∧ GkAt .tab ob := by
  intro g hgt
  have hlt : g < P.globals.size := by
    by_cases hlt : g < P.globals.size
    · exact hlt
    · unfold tabGl at hgt
      rw [Array.getElem?_eq_none (Nat.le_of_not_lt hlt)] at hgt
      cases hgt
  have h1 := List.all_eq_true.1 hu g (List.mem_range.2 hlt)
  rw [hgt] at h1
  obtain rfl : g = g0 := by simpa using h1
  have h2 := laidMetH.filter (fun x => x.1 == "math/bits.deBruijn64tab") h
  rw [hl] at h2
  have h3 := (laidMetH_iff.1 h2).1
  have e1 : ([("math/bits.deBruijn64tab", tabD)].filter fun x => x.2.handleName?.isNone) = [("math/bits.deBruijn64tab", tabD)] := by simp [hh]
  rw [e1] at h3
  have h4 := Lib.tabIs_of_head hg hty ht he hce hct h3
  obtain ⟨ps, ⟨g', t', cs, fuel, p, q, hg', ht', hvar, hd, _, rfl⟩, _, hfree⟩ := h3
  obtain rfl := Option.some.inj (hg.symm.trans hg')
  unfold Lib.TabIs at h4
  have hcs : cs = ((Lib.deBruijn64tab.map Int.ofNat).map fun z => Value.int .u8 z).toArray := Option.some.inj (hvar.symm.trans h4)
  have h64 : cs.size = 64 := by rw [hcs]; rfl
  obtain ⟨⟨c, t2, hc⟩, _⟩ := hfree g 0 (by
    simp only [List.mem_append]
    refine .inl (.inl ?_)
    unfold MemPlace.row
    exact List.mem_map.2 ⟨0, List.mem_range.2 (by omega), rfl⟩)
  have hv := hvar
  unfold World.var? at hv
  rw [hg] at hv
  simp only [Option.bind_some, hc] at hv
  refine ⟨_, hc, t2, ?_⟩
  rw [Option.some.inj hv, hcs]
  simp only [List.map_map]
  rfl

variable {H : Type} {enc : TypeId × Value → H}
/-- As handed_of_change, what the row asks handed on too. -/
theorem handed_of_changeX {a : Assume} {C : Checked} {os : Os} {f : FuncId} {fn : Func} {s : ChangeSpec} {conds : List PathCond} {apart fresh handsOn again : Bool} {X : World → Array Value → Prop}
    (hX : ∀ (w w' : World) (args : Array Value), w.heap = w'.heap → X w args → X w' args)
    (own : ownKnob C.prog.godebug = none) (started : os.Started) (noInit : C.prog.inits.idxOf? f = none) (hfn : C.prog.funcs[f]? = some fn)
    (witness : ∃ (w : World) (tape : Tape) (i : Input), w.os = os ∧ (w.forCall tape i).Shaped C.prog ∧ i.vars = [] ∧ Input.okWide C.prog (w.forCall tape i) .any w.heap.size f i ∧
      ((s.pre enc C.prog fn conds apart (w.forCall tape i).memory i.args ∧ X (w.forCall tape i).memory i.args) ∧ sizedMet enc C.prog fn (OpenSpec.ofChange s) apart (w.forCall tape i).memory i.args) ∧ a.holds C.prog (lone (Frame.enter C.prog f i.args .normal) [] (w.forCall tape i)))
    (contract : ∀ (W : World) (base : Nat) (args : Array Value) (ds gs : List (DataW H)) (before : List MemPlace), W.ShapedOpen C.prog → X W args → (DataW.weightsEach C.prog (fn.params.toList ++ (OpenSpec.ofChange s).bare.plain.varTypes C.prog) (ds ++ gs)).all (· ≤ reachBytes) = true →
      (∀ (j : Nat) t v, fn.params[j]? = some t → args[j]? = some v → Value.okWide C.prog W .any base t v) →
      DataW.Whole enc C.prog fn.params.toList s.vars apart W args.toList ds gs before →
      Calls C.prog f args W fun e W' => ∃ v, e = .returned v ∧ s.post enc C.prog fn apart fresh handsOn again W args v W') :
    ReturnsInHanded a C os f .any (fun w args => (s.pre enc C.prog fn conds apart w args ∧ X w args) ∧ sizedMet enc C.prog fn (OpenSpec.ofChange s) apart w args) (s.post enc C.prog fn apart fresh handsOn again) := by
  refine returnsInHanded_of_calls own started noInit witness ?_
  intro w tape i _ hsh _ hok hpre hholds
  obtain ⟨_, _, _, fn', hfn', _, _, _, _, hval⟩ := hok
  have e : fn' = fn := Option.some.inj (hfn'.symm.trans hfn)
  subst e
  obtain ⟨⟨⟨ds, gs, before, hw, hc⟩, hx⟩, hz⟩ := hpre
  have hw' := DataW.Whole.of_heap (w' := w.forCall tape i) (by rfl) hw
  refine (contract (w.forCall tape i) w.heap.size i.args ds gs before hsh (hX _ _ _ (by rfl : (w.forCall tape i).memory.heap = (w.forCall tape i).heap) hx) (hz.weights hw) hval hw').mono fun e W' ⟨v, he, hp⟩ => ?_
  subst he
  exact ChangeSpec.post_blind hp
end Go.Fv

/-
  Calls into the callee's code: what it writes into memory that the caller owns is seen by the caller.
-/
namespace Go.Fv
set_option linter.unusedSectionVars false
open Go.RowKit
set_option linter.unusedVariables false
set_option linter.unusedSimpArgs false
set_option linter.unnecessarySimpa false

/-- Where the callee ends: the caller goes on with its results, its own slots as they were. -/
def InlPost (P : Program) (res : List ResultVar) (s : S) (K : AV → S → Prop) : Exit → S → Prop
  | .normal, s1 => rets P s1 res (fun vs => K (tupOf vs) { s with rows := s1.rows, next := s1.next })
  | .ret, s1 => rets P s1 res (fun vs => K (tupOf vs) { s with rows := s1.rows, next := s1.next })
  | _, _ => False

section
variable {P : Program} {w0 : World} {T0 : Bs}

/-- A CALL, by the callee's own code. -/
theorem VcCall.inl {f : Nat} {fn : Func} {c : Code} {args : List AV} {s : S} {K : AV → S → Prop} (hf : P.funcs[f]? = some fn) (hb : fn.body = some c)
    (hnm : (fn.name == "runtime.NumGoroutine") = false) (hn : args.length ≤ fn.ntmps) (res : List ResultVar) (hres : fn.results = res.toArray)
    (h : VcRun P w0 T0 s.next c ⟨fn.ntmps, argEnv 0 args, s.rows, s.next⟩ (InlPost P res s K)) : @VcCall P w0 T0 f args s ⟨K⟩ := by
  refine ⟨⟨fn, hf, by rw [hb]; rfl, hnm⟩, fun H a w m vals hm hv => ?_⟩
  refine calls_of_wp hf hb ?_
  have hlen := hv.length
  have hE : ∀ p, p ∈ (s.env.map fun p => (s.get p.1, a.tmps.getD p.1 undef)) ++ H → Rv (ctxOf T0 w0.heap.size m s w) p.1 p.2 := by
    intro p hp
    rcases List.mem_append.1 hp with hp | hp
    · obtain ⟨q, _, rfl⟩ := List.mem_map.1 hp
      show Rv _ (s.get q.1) _
      unfold S.get
      cases hl : lk s.env q.1 with
      | none => exact .dead _
      | some y => exact hm.env q.1 y hl
    · exact hm.held p hp
  have hrep : RepM w0 T0 ((s.env.map fun p => (s.get p.1, a.tmps.getD p.1 undef)) ++ H) ⟨fn.ntmps, argEnv 0 args, s.rows, s.next⟩ { tmps := vals.toArray ++ Array.replicate (fn.ntmps - vals.toArray.size) undef, defers := [] } w m :=
    { size := by simp; omega, nodef := rfl, below := hm.below,
      env := by
        intro r v hr
        obtain ⟨u, h1, h2⟩ := argEnv_rv 0 [] rfl hv r v hr
        have e : ((vals.toArray ++ Array.replicate (fn.ntmps - vals.toArray.size) undef).getD r undef) = u := by
          have h1' : vals[r]? = some u := by simpa using h1
          have hlt : r < vals.length := (List.getElem?_eq_some_iff.1 h1').1
          rw [Array.getD_eq_getD_getElem?, Array.getElem?_append_left (by simpa using hlt)]
          simp [h1']
        rw [e]; exact h2,
      held := hE, rows := hm.rows, sep := hm.sep }
  refine wp_mono (h _ _ w (fun p hp => (hE p hp).ids) ⟨m, hrep⟩) ?_
  rintro e a1 w1 ⟨s1, hq, m1, hm1⟩
  have fin : rets P s1 res (fun vs => K (tupOf vs) { s with rows := s1.rows, next := s1.next }) → a1.defers = [] ∧ ∃ v, (results fn a1.tmps).run P w1 = .ok v w1 ∧ ∃ v', Ending.returned v = .returned v' ∧ ∃ r s', K r s' ∧ Rep w0 T0 ((r, v') :: H) s' a w1 := by
    intro hk
    obtain ⟨l, vs, hk, hr, hvs⟩ := rets_run hm1 hk
    have hrv : Rv (ctxOf T0 w0.heap.size m1 s1 w1) (tupOf l) (tupV vs) := by
      cases hvs with
      | nil => exact .tup _ _ .nil
      | cons x v l us hx ht =>
        cases ht with
        | nil => exact hx
        | cons x' v' l' us' hx' ht' => exact .tup _ _ (.cons _ _ _ _ hx (.cons _ _ _ _ hx' ht'))
    refine ⟨hm1.nodef, _, results_list hres a1.tmps hr, _, rfl, _, _, hk, m1, ?_⟩
    exact { size := hm.size, nodef := hm.nodef, below := hm1.below,
            env := by
              intro r v hv
              have hmem : (s.get r, a.tmps.getD r undef) ∈ (s.env.map fun p => (s.get p.1, a.tmps.getD p.1 undef)) ++ H :=
                List.mem_append.2 (.inl (List.mem_map.2 ⟨(r, v), lk_mem hv, rfl⟩))
              have := hm1.held _ hmem
              have e : s.get r = v := by unfold S.get; rw [show lk s.env r = some v from hv]
              rw [e] at this; exact this,
            held := by
              intro p hp
              cases List.mem_cons.1 hp with
              | inl e => subst e; exact hrv
              | inr e => exact hm1.held p (List.mem_append.2 (.inr e)),
            rows := hm1.rows, sep := hm1.sep }
  cases e with
  | normal => exact fin hq
  | ret => exact fin hq
  | _ => exact hq.elim
end
end Go.Fv
