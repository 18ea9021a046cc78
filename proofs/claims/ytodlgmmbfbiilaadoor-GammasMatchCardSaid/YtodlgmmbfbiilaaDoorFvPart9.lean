/-
  A part of the proof of the claim: walks over the program's functions and the plain laws that these need. No condition of its own.
-/
import Derived.Test.YtodlgmmbfbiilaaDoorFvPart8
import Derived.Test.YtodlgmmbfbiilaaDoorFvPart6
import Derived.Shelf.Vars
import Derived.Handed
import Derived.LaidSub
import Derived.Lib.LaidTab
import Derived.ChangeArms
import Derived.ChangeSlices
import Derived.Carry
import Derived.ProofKit
/-
  The names of one state among those of another, found by looking; steps of a walk.
-/
namespace Go.Fv
set_option linter.unusedSectionVars false
set_option linter.unusedVariables false

mutual
def mkV : AV → AV → List (Nat × Nat)
  | .own i, y => match y with | .own k => [(i, k)] | _ => []
  | .ptr i _, y => match y with | .ptr k _ => [(i, k)] | _ => []
  | .elt i _ _ _, y => match y with | .elt k _ _ _ => [(i, k)] | _ => []
  | .pre i _, y => match y with | .pre k _ => [(i, k)] | _ => []
  | .agg l, y => match y with | .agg l' => mkL l l' | _ => []
  | .tup l, y => match y with | .tup l' => mkL l l' | _ => []
  | .fn _ l, y => match y with | .fn _ l' => mkL l l' | _ => []
  | .dead, _ => []
  | .nilS, _ => []
  | .bool _, _ => []
  | .int _ _, _ => []
  | .str _, _ => []
  | .ro _, _ => []
  | .cell _, _ => []
  | .raw _, _ => []
  | .opt _ x, y => match y with | .opt _ y' => mkV x y' | _ => []
  | .mp _ _, _ => []
def mkL : List AV → List AV → List (Nat × Nat)
  | [], _ => []
  | x :: l, ys => match ys with | y :: l' => mkV x y ++ mkL l l' | [] => []
end
def mkEnv (s : S) : List (Nat × AV) → List (Nat × Nat)
  | [] => []
  | (r, v) :: l => mkV v (s.get r) ++ mkEnv s l
def mkLL : List (List AV) → List (List AV) → List (Nat × Nat)
  | [], _ => []
  | x :: l, ys => match ys with | y :: l' => mkL x y ++ mkLL l l' | [] => []
def mkR : RowV → RowV → List (Nat × Nat)
  | .objs _ l, .objs _ l' => mkLL l l'
  | _, _ => []
def mkItem : Item → Option Item → List (Nat × Nat)
  | .box _ cs, some (.box _ cs') => mkL cs cs'
  | .row _ r, some (.row _ r') => mkR r r'
  | .map ks vs, some (.map ks' vs') => mkL ks ks' ++ mkL vs vs'
  | .iter i _ _, some (.iter k _ _) => [(i, k)]
  | _, _ => []
def mkRows (l : List (Nat × Nat)) (rows : List (Nat × Item)) : List (Nat × Item) → List (Nat × Nat)
  | [] => []
  | (i, it) :: rest => mkItem it (lk rows (pm l i)) ++ mkRows l rows rest
def mkRen (s s' : S) : List (Nat × Nat) := mkEnv s s'.env ++ mkRows (mkEnv s s'.env) s.rows s'.rows

theorem csz_int (k : IntKind) (n : Int) : (Value.int k n).cells.size = 1 := rfl
theorem csz_bool (b : Bool) : (Value.bool b).cells.size = 1 := rfl
theorem csz_str (b : ByteArray) : (Value.string b).cells.size = 1 := rfl
theorem csz_slice (a : Option Addr) (n m : Nat) : (Value.slice a n m).cells.size = 1 := rfl
theorem csz_ptr (a : Option Addr) : (Value.pointer a).cells.size = 1 := rfl
theorem csz_agg (a : Array Value) : (Value.agg a).cells.size = a.size := rfl
theorem Ite.bool {b : Bool} {x y : Prop} (h1 : b = true → x) (h2 : b = false → y) : @Ite b ⟨x⟩ ⟨y⟩ := ⟨h1, h2⟩
section
variable {w0 : World} {T0 : Bs} {b0 : Nat}
theorem Ent.auto0 {s s' : S} (hn : s'.n = s.n) (he : envOk (pm (mkRen s s')) s s'.next s'.env) (hr : subOk (pm (mkRen s s')) s.rows s'.next s'.rows) : Ent w0 T0 0 s s' :=
  Ent.of (mkRen s s') hn (Nat.zero_le _) (fun _ _ => Nat.zero_le _) he hr
/-- Where a function ends: names by looking at the result. -/
def retV (s : S) : ResultVar → AV
  | .tmp t => s.ev (.tmp t)
  | .cell t _ => match s.get t with
    | .ptr i off => match lk s.rows i with
      | some (.box _ cs) => .agg (cs.drop off)
      | _ => .dead
    | _ => .dead
def mkRet (s : S) (res : List ResultVar) (out : AV) (rows : List (Nat × Item)) : List (Nat × Nat) :=
  mkV out (tupOf (res.map (retV s))) ++ mkRows (mkV out (tupOf (res.map (retV s)))) s.rows rows
theorem Ret.auto {P : Program} (N : Nat) {res : List ResultVar} {out : AV} {rows : List (Nat × Item)} {s : S} (h : rets P s res (fun vs => tupOf vs = ren (pm (mkRet s res out rows)) out)) (hb : Fv.below N out = true) (hr : subOk (pm (mkRet s res out rows)) s.rows N rows) : Ret P w0 T0 res out rows s :=
  Ret.of _ N h hb hr
end
end Go.Fv

/-
  The set by which a walk is reckoned.
-/
namespace Go.Fv
set_option linter.unusedSectionVars false
theorem band_dec (p q : Prop) [Decidable p] [Decidable q] : (decide p && decide q) = decide (p ∧ q) := by simp
theorem bor_dec (p q : Prop) [Decidable p] [Decidable q] : (decide p || decide q) = decide (p ∨ q) := by simp
theorem bnot_dec (p : Prop) [Decidable p] : (!decide p) = decide (¬ p) := by simp
attribute [go_sem] not_true_eq_false or_true true_or false_or or_false and_false false_and or_self and_self Array.toList_replicate List.map_replicate List.mem_replicate not_false_eq_true ne_eq Value.oneCell' maxLen_eq Nat.zero_le band_dec bor_dec bnot_dec AV.int.injEq AV.bool.injEq vcCode thenS blockS knowB vcOps vcGo vcOp vcMove vcPick vcExtract vcMakeFunc vcBox vcAlloc vcLoad vcNil vcFieldAddr vcIndexAddr vcStore vcMake vcPut vcCallOp vcLen vcAppend vcBin vcBinN isNilI vcBinX vcPtrN ptrN ifN kds kd eqB eq1 vcUn vcConv vcIndex vcField vcMM vcSlice viewSlot intsOfU intsOfU_map vcSlData vcCapN vcUStr vcAppendN vcBuildSlice intsOf vcBuild vcTree S.ev S.get S.set S.add S.swap S.after shRows lk put del evs opndOk strConstsOk ofV inKB ren renL frz frzL addElem addElems subRow knowInt ldCells aggB bnd bndOk zrow elemA setElem spl appRow rowOfAV boxable S.upd idxFrom bparts placeOf bytesOf noId noIdL below belowL RowV.len RowV.sz Item.ren csz_int csz_bool csz_str csz_slice csz_ptr csz_agg List.length_append List.length_set List.length_replicate List.length_nil List.mem_cons List.not_mem_nil or_false forall_eq forall_eq_or_imp implies_true false_implies eq_self List.set_cons_zero List.set_cons_succ List.drop_zero List.drop_succ_cons List.take_succ_cons List.take_zero List.size_toArray List.length_cons List.map_cons List.map_nil List.replicate_zero List.nil_append List.cons_append List.append_nil List.reverse_nil List.zipIdx_cons List.zipIdx_nil Array.toList_empty List.getElem?_cons_zero List.getElem?_cons_succ List.getElem?_toArray Option.bind_some Option.map_some Option.getD_some Nat.one_mul decide_true decide_false Bool.and_self Bool.true_and Bool.false_and Bool.and_true Bool.and_false Bool.not_true Bool.not_false cond_true cond_false Ite_true Ite_false and_true true_and and_self Chk_true Bool.not_eq_true' Nat.zero_add Nat.add_zero Int.toNat_natCast Int.ofNat_eq_natCast pkC pkV peelE peelC peel gOps gBin gLen gHead gCell gVal gPick pickOk vcWhen LetW_eq Chk_r Asm_r Bool.and_eq_true decide_eq_true_eq Bool.cond_true_left Bool.cond_false_right imp_self Bool.not_eq_true decide_eq_false_iff_not Decidable.not_not Bool.not_not InK_i64 InK_u8 Int.natCast_zero
end Go.Fv

/-
  Calls whose results are only read by the caller: they stand as data, and the caller's state stays as it is.
-/
namespace Go.Fv
set_option linter.unusedSectionVars false
open Go.RowKit
set_option linter.unusedVariables false
set_option linter.unusedSimpArgs false
set_option linter.unnecessarySimpa false

def outOk (rows : List (Nat × Item)) (x y : AV) : Prop := match x with
  | .tup l => ∃ l', argOkL rows l l' ∧ y = .tup l'
  | x => argOk rows x y

section
variable {P : Program} {w0 : World} {T0 : Bs}

theorem OutOk.ro {T : Nat → Prop} {B : Nat} {w : World} {out out' : AV} {rows : List (Nat × Item)} {v : Value} (h : OutOk T B w out rows v) (ho : outOk rows out out') : OutOk T B w out' [] v := by
  obtain ⟨m, N, hr, hrows, hsep⟩ := h
  have hblk : ∀ i it, lk rows i = some it → ∀ b, blk (m i) = some b → B ≤ b := fun i it hi b hb => ((hrows i it hi).2.blk b hb).1
  have hl : Lend w (⟨w, allow (bs T) B m rows, m, N⟩ : Ctx) rows (allow (bs T) B (fun _ => undef) []) :=
    { hw := rfl, t := fun b hb => ⟨hb.1, fun i it hi => by simp [lk] at hi⟩,
      own := fun i e r hi => by
        obtain ⟨n, cells, hc, hn, hq, _⟩ := (hrows i _ hi).2
        exact ⟨fun b hb => ⟨.inl (hblk i _ hi b hb), fun i it hi => by simp [lk] at hi⟩, n, cells, hc, hn, hq⟩,
      box := fun i e cs hi => by
        obtain ⟨g, vs, hv, hg, hl, hh⟩ := (hrows i _ hi).2
        exact ⟨g, vs, hv, ⟨.inl hg, fun i it hi => by simp [lk] at hi⟩, hl, hh⟩,
      map := fun i ks vs hi => by
        obtain ⟨g, es, clock, hv, hg, h1, h2, h3, h4, hh⟩ := (hrows i _ hi).2
        exact ⟨g, es, clock, hv, ⟨.inl hg, fun i it hi => by simp [lk] at hi⟩, h1, h2, h3, h4, hh⟩ }
  refine ⟨fun _ => undef, 0, ?_, fun i it hi => by simp [lk] at hi, fun i j it jt b hi => by simp [lk] at hi⟩
  unfold outOk at ho
  split at ho
  · obtain ⟨l', ha, rfl⟩ := ho
    cases hr with
    | tup _ vs hv => exact .tup _ _ (argOkT_rv hl _ ha hv)
  · exact argOkN_rv hl 6 _ ho hr

theorem OutOk.noid {T : Nat → Prop} {B : Nat} {w : World} {out : AV} {v : Value} (h : OutOk T B w out [] v) : OutOk T B w out [] v := h

/-- A CALL BY A CONTRACT whose results share nothing, and are only read. -/
theorem VcCall.ro [hG : GlB P w0 T0] {f : Nat} {args args' : List AV} {out : AV} (out' : AV) {rows : List (Nat × Item)} {s : S} {K : AV → S → Prop} (h : FnFr P f args' out rows) (ha : argOkL s.rows args args') (ho : outOk rows out out') (hn : noId out' = true)
    (hk : K out' s) : @VcCall P w0 T0 f args s ⟨K⟩ := by
  have h' : FnFr P f args' out' [] := ⟨h.1, fun w T vals hgl hv => (h.2 w T vals hgl hv).mono fun e w' ⟨v, he, hb, hq⟩ => ⟨v, he, hb, hq.ro ho⟩⟩
  refine VcCall.fr h' ha 0 (noId_below 0 _ hn) trivial ?_
  rw [noId_ren _ _ hn]
  exact hk

theorem FnOk.ro {f : Nat} {args : List AV} {out out' : AV} {rows : List (Nat × Item)} (h : FnOk P f args out rows) (ho : outOk rows out out') : FnOk P f args out' [] :=
  ⟨h.1, fun w T vals hgl hv => (h.2 w T vals hgl hv).mono fun e w' ⟨v, he, hb, hq⟩ => ⟨v, he, hb, hq.ro ho⟩⟩
/-- The same, and its new rows are the caller's own. -/
theorem VcCall.shr [hG : GlB P w0 T0] {f : Nat} {args args' : List AV} {out : AV} {rows : List (Nat × Item)} {s : S} {K : AV → S → Prop} (h : FnOk P f args' out rows) (ha : argOkL [] args args') (N : Nat) (hN : Fv.below N out = true) (hNr : rowsB N rows)
    (hk : K (ren (fun j => s.next + j) out) (s.after s.rows N rows)) : @VcCall P w0 T0 f args s ⟨K⟩ :=
  VcCall.sh s.rows h [] ha (fun _ _ h => h) (fun i it hi => by simp [lk] at hi) N hN hNr hk
end
end Go.Fv

/-
  A nil slice in a box, as an owned row without elements.
-/
namespace Go.Fv
set_option linter.unusedSectionVars false
open Go.RowKit
set_option linter.unusedVariables false
set_option linter.unusedSimpArgs false
set_option linter.unnecessarySimpa false

section
variable {P : Program} {w0 : World} {T0 : Bs} {b0 : Nat}

end
end Go.Fv

/-
  What a function value has captured, where nothing of it is the caller's own memory.
-/
namespace Go.Fv
set_option linter.unusedSectionVars false
open Go.RowKit
set_option linter.unusedVariables false

def lendB : Nat → AV → Bool
  | 0, _ => false
  | n + 1, x => match x with
    | .agg cs => cs.all (lendB n)
    | .fn _ cs => cs.all (lendB n)
    | .ro _ => true
    | .bool _ => true
    | .int _ _ => true
    | .str _ => true
    | .raw _ => true
    | .cell _ => true
    | .nilS => true
    | .mp _ _ => true
    | _ => false

class CapsOk (caps : List AV) : Prop where
  ok : caps.all (lendB 5) = true
section
variable {caps : List AV} [h : CapsOk caps]
end
mutual
theorem mkV_noId : ∀ (x y : AV), noId x = true → mkV x y = []
  | .own _, _, h => by simp [noId] at h
  | .ptr _ _, _, h => by simp [noId] at h
  | .elt _ _ _ _, _, h => by simp [noId] at h
  | .pre _ _, _, h => by simp [noId] at h
  | .agg l, y, h => by simp only [mkV]; split <;> first | exact mkL_noId l _ (by simpa [noId] using h) | rfl
  | .tup l, y, h => by simp only [mkV]; split <;> first | exact mkL_noId l _ (by simpa [noId] using h) | rfl
  | .fn _ l, y, h => by simp only [mkV]; split <;> first | exact mkL_noId l _ (by simpa [noId] using h) | rfl
  | .dead, _, _ => rfl
  | .nilS, _, _ => rfl
  | .bool _, _, _ => rfl
  | .int _ _, _, _ => rfl
  | .str _, _, _ => rfl
  | .ro _, _, _ => rfl
  | .cell _, _, _ => rfl
  | .raw _, _, _ => rfl
  | .mp _ _, _, _ => rfl
  | .opt _ x, y, h => by simp only [mkV]; split <;> first | exact mkV_noId x _ (by simpa [noId] using h) | rfl
theorem mkL_noId : ∀ (x y : List AV), noIdL x = true → mkL x y = []
  | [], _, _ => rfl
  | x :: l, y, h => by
    simp only [noIdL, Bool.and_eq_true] at h
    simp only [mkL]; split
    · rw [mkV_noId x _ h.1, mkL_noId l _ h.2]; rfl
    · rfl
end
theorem mkLL_noId : ∀ (x y : List (List AV)), x.all noIdL = true → mkLL x y = []
  | [], _, _ => rfl
  | x :: l, y, h => by
    simp only [List.all_cons, Bool.and_eq_true] at h
    simp only [mkLL]; split
    · rw [mkL_noId x _ h.1, mkLL_noId l _ h.2]; rfl
    · rfl
theorem mkR_ok (r r' : RowV) [h : RowNoId r] : mkR r r' = [] := by
  have := h.ok
  cases r <;> cases r' <;> first | rfl | exact mkLL_noId _ _ this
end Go.Fv

/-
  The walk of drawn regions, in the set.
-/
namespace Go.Fv
set_option linter.unusedSectionVars false
attribute [go_sem] vcConvX appTy vcLookup lookK vcMakeMap vcMapUpd vcMapEnt entK vcEntStore vcRange vcNext vcEntry List.getLast?_concat mapOf gLook KeysT_nil gMM Bool.false_eq_true true_implies gGo_some bGo_true bGo_false eGo_mk qGo_val qGo_lin qGo_call rOps qVc ksOf peelC Option.toList_some Option.toList_none
end Go.Fv

/-
  Maps whose keys and values are told by lists of plain data.
-/
namespace Go.Fv
set_option linter.unusedSectionVars false
set_option linter.unusedVariables false
end Go.Fv

/-
  Small facts about lists.
-/
namespace Go.Fv
set_option linter.unusedSectionVars false
theorem getD_lt {α : Type} {l : List α} {i : Nat} {d : α} (h : i < l.length) : l.getD i d = l[i] := by simp [List.getD, h]
theorem renL_bools (p : Nat → Nat) : ∀ l : List Bool, renL p (l.map .bool) = l.map .bool
  | [] => rfl
  | b :: l => by simp only [List.map_cons, renL, ren]; rw [renL_bools p l]
theorem renL_ints (p : Nat → Nat) (k : IntKind) : ∀ l : List Int, renL p (l.map (.int k)) = l.map (.int k)
  | [] => rfl
  | b :: l => by simp only [List.map_cons, renL, ren]; rw [renL_ints p k l]
theorem belowL_bools (n : Nat) : ∀ l : List Bool, belowL n (l.map .bool) = true
  | [] => rfl
  | b :: l => by simp only [List.map_cons, belowL, below, Bool.true_and]; exact belowL_bools n l
theorem belowL_ints (n : Nat) (k : IntKind) : ∀ l : List Int, belowL n (l.map (.int k)) = true
  | [] => rfl
  | b :: l => by simp only [List.map_cons, belowL, below, Bool.true_and]; exact belowL_ints n k l
theorem mkL_bools : ∀ (l : List Bool) (y : List AV), mkL (l.map .bool) y = []
  | [], _ => by simp [mkL]
  | b :: l, y => by
    simp only [List.map_cons, mkL]
    split
    · simp only [mkV, List.nil_append]; exact mkL_bools l _
    · rfl
theorem mkL_ints (k : IntKind) : ∀ (l : List Int) (y : List AV), mkL (l.map (.int k)) y = []
  | [], _ => by simp [mkL]
  | b :: l, y => by
    simp only [List.map_cons, mkL]
    split
    · simp only [mkV, List.nil_append]; exact mkL_ints k l _
    · rfl
theorem allOk_bools (rows : List (Nat × Item)) (n : Nat) : ∀ l : List Bool, allOk (argOkN rows (n + 1)) (l.map .bool) (l.map .bool)
  | [] => rfl
  | b :: l => ⟨.bool b, l.map .bool, by simp [argOkN], allOk_bools rows n l, rfl⟩
theorem set_bools (l : List Bool) (i : Nat) (b : Bool) : (l.map AV.bool).set i (.bool b) = (l.set i b).map .bool := by rw [List.map_set]
theorem set_ints (l : List Int) (k : IntKind) (i : Nat) (b : Int) : (l.map (AV.int k)).set i (.int k b) = (l.set i b).map (.int k) := by rw [List.map_set]
theorem noRoL_bools : ∀ l : List Bool, noRoL (l.map .bool) = true
  | [] => rfl
  | b :: l => by simp only [List.map_cons, noRoL, noRo, Bool.true_and]; exact noRoL_bools l
theorem spl_eq : ∀ (cs bs : List AV) (off : Nat), off + cs.length ≤ bs.length → spl bs off cs = bs.take off ++ cs ++ bs.drop (off + cs.length)
  | [], bs, off, _ => by simp [spl]
  | c :: cs, bs, off, h => by
    simp only [List.length_cons] at h
    rw [spl, spl_eq cs _ _ (by simp; omega), List.take_set, List.drop_set, if_pos (by omega)]
    rw [List.take_succ_eq_append_getElem (by omega), List.set_append_right _ _ (by simp; omega)]
    have e : off - (List.take off bs).length = 0 := by simp; omega
    rw [e]
    simp only [List.set_cons_zero, List.length_cons, List.append_assoc, List.cons_append, List.nil_append]
    have e2 : off + 1 + cs.length = off + (cs.length + 1) := by omega
    rw [e2]
theorem spl_all {bs cs : List AV} (h : cs.length = bs.length) : spl bs 0 cs = cs := by
  rw [spl_eq _ _ _ (by omega)]; simp [h]
attribute [simp] noIdR_ok renR_ok belowR_ok mkR_ok
attribute [go_sem] frzS noIdR_ok renR_ok belowR_ok renL_bools renL_ints belowL_bools belowL_ints List.length_map Nat.mul_one set_bools set_ints
end Go.Fv

/-
  Families of rows: as many owned rows as a list tells, with names one behind the other.
-/
namespace Go.Fv
set_option linter.unusedSectionVars false
set_option linter.unusedVariables false
set_option linter.unusedSimpArgs false

section
variable {w0 : World} {T0 : Bs} {b0 : Nat}
end
/-! ### Renamings by hand -/
def p1 (a K x : Nat) : Nat := if x = a then K else x
def p2 (a K a' K' x : Nat) : Nat := if x = a then K else if x = a' then K' else x
end Go.Fv

/-
  An owned row becomes data, wherever the state speaks of it.
-/
namespace Go.Fv
set_option linter.unusedSectionVars false
open Go.RowKit
set_option linter.unusedVariables false
set_option linter.unusedSimpArgs false
set_option linter.unnecessarySimpa false

mutual
def fz (k : Nat) (r : RowV) : AV → AV
  | .own i => if i = k then .ro r else .own i
  | .ptr i o => .ptr i o
  | .elt i a b c => .elt i a b c
  | .pre i n => .pre i n
  | .agg cs => .agg (fzL k r cs)
  | .tup cs => .tup (fzL k r cs)
  | .fn f cs => .fn f (fzL k r cs)
  | .cell cs => .cell cs
  | .dead => .dead
  | .nilS => .nilS
  | .bool b => .bool b
  | .int q n => .int q n
  | .str s => .str s
  | .ro r => .ro r
  | .raw v => .raw v
  | .opt b v => .opt b (fz k r v)
  | .mp ks vs => .mp ks vs
def fzL (k : Nat) (r : RowV) : List AV → List AV
  | [] => []
  | x :: l => fz k r x :: fzL k r l
end
def fzR (k : Nat) (q : RowV) : RowV → RowV
  | .objs sz l => .objs sz (l.map (fzL k q))
  | .bools l => .bools l
  | .ints k l => .ints k l
  | .strs l => .strs l
def fzI (k : Nat) (q : RowV) : Item → Item
  | .row e r => .row e (fzR k q r)
  | .box e cs => .box e (fzL k q cs)
  | .map ks vs => .map (fzL k q ks) (fzL k q vs)
  | .iter mp since seen => .iter mp since seen
  | .siter t pos => .siter t pos
def fzE (k : Nat) (q : RowV) : List (Nat × AV) → List (Nat × AV)
  | [] => []
  | (i, v) :: l => (i, fz k q v) :: fzE k q l
def fzRows (k : Nat) (q : RowV) : List (Nat × Item) → List (Nat × Item)
  | [] => []
  | (i, it) :: l => if i = k then fzRows k q l else (i, fzI k q it) :: fzRows k q l
def S.fz (s : S) (k : Nat) (r : RowV) : S := { s with env := fzE k r s.env, rows := fzRows k r s.rows }

theorem lk_fzE (k : Nat) (q : RowV) : ∀ (l : List (Nat × AV)) (i : Nat), lk (fzE k q l) i = (lk l i).map (fz k q)
  | [], i => rfl
  | (j, v) :: l, i => by
    simp only [fzE, lk]
    split
    · rfl
    · exact lk_fzE k q l i
theorem lk_fzRows (k : Nat) (q : RowV) : ∀ (l : List (Nat × Item)) (i : Nat), lk (fzRows k q l) i = if i = k then none else (lk l i).map (fzI k q)
  | [], i => by simp [fzRows, lk]
  | (j, v) :: l, i => by
    simp only [fzRows]
    split
    · rename_i e; subst e
      rw [lk_fzRows]
      by_cases h : i = j
      · simp [h]
      · simp only [if_neg h, lk]; rw [if_neg (fun e => h e.symm)]
    · rename_i e
      simp only [lk]
      split
      · rename_i e2; subst e2; rw [if_neg e]; rfl
      · exact lk_fzRows k q l i

mutual
theorem fz_below {k : Nat} {r : RowV} (n : Nat) : ∀ x : AV, below n x = true → below n (fz k r x) = true
  | .own i, h => by
    simp only [fz]; split
    · rfl
    · exact h
  | .ptr i o, h => h
  | .elt i a b c, h => h
  | .pre i n, h => h
  | .agg cs, h => by simp only [fz, below] at *; exact fzL_below n cs h
  | .tup cs, h => by simp only [fz, below] at *; exact fzL_below n cs h
  | .fn f cs, h => by simp only [fz, below] at *; exact fzL_below n cs h
  | .cell cs, _ => rfl
  | .dead, _ => rfl
  | .nilS, _ => rfl
  | .bool _, _ => rfl
  | .int _ _, _ => rfl
  | .str _, _ => rfl
  | .ro _, _ => rfl
  | .raw _, _ => rfl
  | .opt _ v, h => by simp only [fz, below] at *; exact fz_below n v h
  | .mp _ _, _ => rfl
theorem fzL_below {k : Nat} {r : RowV} (n : Nat) : ∀ x : List AV, belowL n x = true → belowL n (fzL k r x) = true
  | [], _ => rfl
  | x :: l, h => by
    simp only [belowL, Bool.and_eq_true] at h
    simp [fzL, belowL, fz_below n x h.1, fzL_below n l h.2]
end
mutual
theorem fz_low (k : Nat) (r : RowV) (b0 : Nat) (hb : b0 ≤ k) : ∀ x : AV, below b0 x = true → fz k r x = x
  | .own i, h => by
    simp only [below, decide_eq_true_eq] at h
    simp only [fz]; rw [if_neg (by omega)]
  | .ptr i o, h => rfl
  | .elt i a b c, h => rfl
  | .pre i n, h => rfl
  | .agg cs, h => by simp only [fz]; rw [fzL_low k r b0 hb cs (by simpa [below] using h)]
  | .tup cs, h => by simp only [fz]; rw [fzL_low k r b0 hb cs (by simpa [below] using h)]
  | .fn f cs, h => by simp only [fz]; rw [fzL_low k r b0 hb cs (by simpa [below] using h)]
  | .cell cs, _ => rfl
  | .dead, _ => rfl
  | .nilS, _ => rfl
  | .bool _, _ => rfl
  | .int _ _, _ => rfl
  | .str _, _ => rfl
  | .ro _, _ => rfl
  | .raw _, _ => rfl
  | .mp _ _, _ => rfl
  | .opt b v, h => by simp only [fz]; rw [fz_low k r b0 hb v (by simpa [below] using h)]
theorem fzL_low (k : Nat) (r : RowV) (b0 : Nat) (hb : b0 ≤ k) : ∀ x : List AV, belowL b0 x = true → fzL k r x = x
  | [], _ => rfl
  | x :: l, h => by
    simp only [belowL, Bool.and_eq_true] at h
    simp only [fzL]; rw [fz_low k r b0 hb x h.1, fzL_low k r b0 hb l h.2]
end
structure CtxFz (k : Nat) (r : RowV) (c c' : Ctx) : Prop where
  n : c'.N = c.N
  m : c'.m = c.m
  t : ∀ b, c.T b → b < c.w.heap.size → c'.T b ∧ c'.w.heap[b]? = c.w.heap[b]?
  ro : Rv c' (.ro r) (c.m k)

mutual
theorem Rv.fz {k : Nat} {r : RowV} {c c' : Ctx} (h : CtxFz k r c c') : ∀ {x : AV} {v : Value}, Rv c x v → Rv c' (Fv.fz k r x) v
  | _, _, .dead v => .dead v
  | _, _, .nilS => .nilS
  | _, _, .bool b => .bool b
  | _, _, .int q n hk => .int q n hk
  | _, _, .str s hs => .str s hs
  | _, _, .roNil r hr hi => .roNil r (RowC.noid h.t hr hi) hi
  | _, _, .ro r a len cap cells hr hl hc hm hs hi => .ro r a len cap cells (RowC.noid h.t hr hi) hl hc hm (hs.mono' h.t) hi
  | _, _, .mp ks vs g es clock hk hv hb hc hT hh hi hi2 => .mp ks vs g es clock (RvT.noid h.t hk hi) (RvT.noid h.t hv hi2) hb hc (h.t g hT (Array.getElem?_eq_some_iff.1 hh).1).1 (by rw [(h.t g hT (Array.getElem?_eq_some_iff.1 hh).1).2]; exact hh) hi hi2
  | _, _, .own i hi h1 => by
    simp only [Fv.fz]
    split
    · rename_i e; subst e; exact h.ro
    · rw [← h.m]; exact .own i (by rw [h.n]; exact hi) (by rw [h.m]; exact h1)
  | _, _, .cell cs vs a hl hi hs => .cell cs vs a (RvL.noid h.t hl hi) hi (hs.mono' h.t)
  | _, _, .ptr i off g hi hg => .ptr i off g (by rw [h.n]; exact hi) (by rw [h.m]; exact hg)
  | _, _, .elt i a b d g hi hg => .elt i a b d g (by rw [h.n]; exact hi) (by rw [h.m]; exact hg)
  | _, _, .pre i n l cap a hi hv hn => .pre i n l cap a (by rw [h.n]; exact hi) (by rw [h.m]; exact hv) hn
  | _, _, .agg cs vs hl => .agg _ vs (RvL.fz h hl)
  | _, _, .tup cs vs hl => .tup _ vs (RvT.fz h hl)
  | _, _, .fn f cs vs hl => .fn f _ vs (RvT.fz h hl)
  | _, _, .raw v => .raw v
  | _, _, .opt b x v hb hx h2 => .opt b _ v (by rw [h.n]; exact fz_below _ _ hb) (fun e => Rv.fz h (hx e)) h2
theorem RvL.fz {k : Nat} {r : RowV} {c c' : Ctx} (h : CtxFz k r c c') : ∀ {x : List AV} {v : List Value}, RvL c x v → RvL c' (fzL k r x) v
  | _, _, .nil => .nil
  | _, _, .cons x v l vs hx h1 ht => .cons _ v _ vs (Rv.fz h hx) h1 (RvL.fz h ht)
theorem RvT.fz {k : Nat} {r : RowV} {c c' : Ctx} (h : CtxFz k r c c') : ∀ {x : List AV} {v : List Value}, RvT c x v → RvT c' (fzL k r x) v
  | _, _, .nil => .nil
  | _, _, .cons x v l vs hx ht => .cons _ v _ vs (Rv.fz h hx) (RvT.fz h ht)
end
theorem ObjsC.fz {k : Nat} {r : RowV} {c c' : Ctx} (h : CtxFz k r c c') : ∀ {sz : Nat} {x : List (List AV)} {v : List Value}, ObjsC c sz x v → ObjsC c' sz (x.map (fzL k r)) v
  | _, _, _, .nil sz => .nil sz
  | _, _, _, .cons sz o vs l cells ho hl ht => .cons sz _ vs _ cells (ho.fz h) hl (ht.fz h)
theorem RowC.fz {k : Nat} {q : RowV} {c c' : Ctx} (h : CtxFz k q c c') {x : RowV} {v : List Value} (hr : RowC c x v) : RowC c' (fzR k q x) v := by
  cases hr with
  | bools l => exact .bools l
  | ints k l hk => exact .ints k l hk
  | strs l hs => exact .strs l hs
  | objs sz l cells hz ho => exact .objs sz _ _ hz (ho.fz h)
theorem fzR_len (k : Nat) (q r : RowV) : (fzR k q r).len = r.len := by cases r <;> simp [fzR, RowV.len]
theorem fzR_sz (k : Nat) (q r : RowV) : (fzR k q r).sz = r.sz := by cases r <;> rfl
theorem ItemOk.fz {k : Nat} {q : RowV} {c c' : Ctx} (h : CtxFz k q c c') (hw : c'.w = c.w) {O : Nat → Prop} {v : Value} {it : Item} (hi : ItemOk c O v it) : ItemOk c' O v (fzI k q it) := by
  cases it with
  | row e r =>
    obtain ⟨n, cells, hr, hn, ho, hO⟩ := hi
    exact ⟨n, cells, hr.fz h, by rw [fzR_len]; exact hn, by rw [fzR_sz, hw]; exact ho, hO⟩
  | box e cs => obtain ⟨g, vs, rfl, hg, hl, hh⟩ := hi; exact ⟨g, vs, rfl, hg, hl.fz h, by rw [hw]; exact hh⟩
  | map ks vs => obtain ⟨g, es, clock, rfl, hg, h1, h2, h3, h4, hh⟩ := hi; exact ⟨g, es, clock, rfl, hg, h1.fz h, h2.fz h, h3, h4, by rw [hw]; exact hh⟩
  | iter mp since seen => obtain ⟨g, p, sn, last, rfl, hg, h1, h2, h3, h4, hh⟩ := hi; exact ⟨g, p, sn, last, rfl, hg, by rw [h.n]; exact h1, by rw [h.m]; exact h2, h3, h4, by rw [hw]; exact hh⟩
  | siter t pos => obtain ⟨g, rfl, hg, hh⟩ := hi; exact ⟨g, rfl, hg, by rw [hw]; exact hh⟩
section
variable {w0 : World} {T0 : Bs} {b0 : Nat}
/-- AN OWNED ROW BECOMES DATA. -/
theorem Ent.fz (k : Nat) {s : S} {e : TypeId} {r : RowV} (hk : lk s.rows k = some (.row e r)) (hid : noIdR r = true) (hb : b0 ≤ k) : Ent w0 T0 b0 s (s.fz k r) := by
  rintro H a w hH ⟨m, hm⟩
  have hsub : ∀ i it, lk (s.fz k r).rows i = some it → i ≠ k ∧ ∃ jt, lk s.rows i = some jt ∧ it = fzI k r jt := by
    intro i it hi
    simp only [S.fz, lk_fzRows] at hi
    split at hi
    · cases hi
    · rename_i hne
      cases hq : lk s.rows i with
      | none => rw [hq] at hi; cases hi
      | some jt => rw [hq] at hi; cases hi; exact ⟨hne, jt, rfl, rfl⟩
  have hdel : ∀ i it, lk (del s.rows k) i = some it → lk s.rows i = some it := del_sub _ _
  have hro := own_ro hm hk hdel (by rw [lk_del, if_pos rfl]) hid
  have hT : ∀ b, allow T0 w0.heap.size m (del s.rows k) b → allow T0 w0.heap.size m (s.fz k r).rows b := by
    rintro b ⟨h1, h2⟩
    refine ⟨h1, fun i it hi e => ?_⟩
    obtain ⟨hne, jt, hj, _⟩ := hsub i it hi
    exact h2 i jt (by rw [lk_del, if_neg hne]; exact hj) e
  have hc : CtxFz k r (ctxOf T0 w0.heap.size m s w) (ctxOf T0 w0.heap.size m (s.fz k r) w) :=
    { n := rfl, m := rfl,
      t := by
        intro b ⟨h1, h2⟩ _
        exact ⟨hT b ⟨h1, fun i it hi => h2 i it (hdel i it hi)⟩, rfl⟩,
      ro := by
        refine Rv.noid (c := ctxOf T0 w0.heap.size m { s with rows := del s.rows k } w) ?_ hro rfl
        intro b hb _
        exact ⟨hT b hb, rfl⟩ }
  refine ⟨m, { size := hm.size, nodef := hm.nodef, below := hm.below, env := ?_, held := ?_, rows := ?_, sep := ?_ }⟩
  · intro q v hv
    simp only [S.fz, lk_fzE] at hv
    cases hq : lk s.env q with
    | none => rw [hq] at hv; cases hv
    | some y => rw [hq] at hv; cases hv; exact (hm.env q y hq).fz hc
  · intro p hp
    have h1 := (hm.held p hp).fz hc
    have h2 : Fv.fz k r p.1 = p.1 := by
      have hlow := hH p hp
      exact fz_low k r b0 hb p.1 hlow
    rwa [h2] at h1
  · intro i it hi
    obtain ⟨hne, jt, hj, rfl⟩ := hsub i it hi
    exact ⟨(hm.rows i jt hj).1, (hm.rows i jt hj).2.fz hc rfl⟩
  · intro i j it jt b hi hj hbi hbj
    obtain ⟨_, it', hi', _⟩ := hsub i it hi
    obtain ⟨_, jt', hj', _⟩ := hsub j jt hj
    exact hm.sep i j it' jt' b hi' hj' hbi hbj
end
attribute [go_sem] fz fzL fzR fzI fzE fzRows S.fz
end Go.Fv

/-
  The set by which states are held against one another.
-/
namespace Go.Fv
set_option linter.unusedSectionVars false
theorem renL_rep (p : Nat → Nat) (x : AV) : ∀ n : Nat, renL p (List.replicate n x) = List.replicate n (ren p x)
  | 0 => rfl
  | n + 1 => by simp only [List.replicate_succ, renL]; rw [renL_rep p x n]
theorem belowL_rep {N : Nat} {x : AV} (h : below N x = true) : ∀ n : Nat, belowL N (List.replicate n x) = true
  | 0 => rfl
  | n + 1 => by simp only [List.replicate_succ, belowL, h, Bool.true_and]; exact belowL_rep h n
theorem noIdL_rep {x : AV} (h : noId x = true) : ∀ n : Nat, noIdL (List.replicate n x) = true
  | 0 => rfl
  | n + 1 => by simp only [List.replicate_succ, noIdL, h, Bool.true_and]; exact noIdL_rep h n
theorem mkL_rep {x : AV} (h : noId x = true) (n : Nat) (y : List AV) : mkL (List.replicate n x) y = [] := mkL_noId _ y (noIdL_rep h n)
theorem belowL_repb (N n : Nat) (b : Bool) : belowL N (List.replicate n (AV.bool b)) = true := belowL_rep rfl n
theorem belowL_repi (N n : Nat) (k : IntKind) (i : Int) : belowL N (List.replicate n (AV.int k i)) = true := belowL_rep rfl n
theorem mkL_repb (n : Nat) (b : Bool) (y : List AV) : mkL (List.replicate n (AV.bool b)) y = [] := mkL_rep rfl n y
theorem mkL_repi (n : Nat) (k : IntKind) (i : Int) (y : List AV) : mkL (List.replicate n (AV.int k i)) y = [] := mkL_rep rfl n y
attribute [go_sem] mkR_ok mkL_bools mkL_ints rets rets1 retV mkRet tupOf envOk subOk mkRen mkEnv mkRows mkItem mkV mkL pm Item.below AV.own.injEq AV.str.injEq AV.ro.injEq AV.agg.injEq AV.tup.injEq List.cons.injEq Option.some.injEq Item.row.injEq Item.box.injEq RowV.ints.injEq RowV.bools.injEq RowV.strs.injEq RowV.objs.injEq Nat.succ_ne_self renL_rep belowL_repb belowL_repi mkL_repb mkL_repi
end Go.Fv

/-
  Steps of a walk that pay their side conditions by themselves.
-/
namespace Go.Fv
set_option linter.unusedSectionVars false
set_option linter.unusedVariables false
theorem Chk.g {p K : Prop} (k : K) (h : p := by first | omega | (with_reducible refine Chk.intro ?_ ?_ <;> omega) | (simp; done) | (simp; omega)) : Chk p K := ⟨h, k⟩
theorem LetW.g {e : Int} {K : Int → Prop} (kk : K e) (h1 : -9223372036854775808 ≤ e := by omega) (h2 : e ≤ 9223372036854775807 := by omega) : LetW .i64 e K := LetW.i64 h1 h2 kk
theorem LetW.h {e : Int} {K : Int → Prop} (kk : K e) (h1 : 0 ≤ e := by omega) (h2 : e ≤ 255 := by omega) : LetW .u8 e K := LetW.u8 h1 h2 kk
theorem Ite.t {p : Prop} [Decidable p] {x y : Prop} (k : p → x) (h : ¬ p → False := by (intro _; omega)) : @Ite (Decidable.decide p) ⟨x⟩ ⟨y⟩ := Ite.decide k fun h' => (h h').elim
theorem Ite.f {p : Prop} [Decidable p] {x y : Prop} (k : ¬ p → y) (h : p → False := by (intro _; omega)) : @Ite (Decidable.decide p) ⟨x⟩ ⟨y⟩ := Ite.decide (fun h' => (h h').elim) k
/-- A step that asks for nothing: what is to be shown instead. -/
class Stp (p : Prop) (q : outParam Prop) : Prop where
  go : q → p
instance {p K : Prop} : Stp (Asm p K) (p → K) := ⟨Asm.intro⟩
instance {K : Int → Prop} : Stp (@AnyI .i64 ⟨K⟩) (∀ n, (-9223372036854775808 ≤ n ∧ n ≤ 9223372036854775807) → K n) := ⟨AnyI.i64⟩
instance (priority := 900) {b : Bool} {x y : Prop} : Stp (@Ite b ⟨x⟩ ⟨y⟩) ((b = true → x) ∧ (b = false → y)) := ⟨fun h => Ite.bool h.1 h.2⟩
instance {p : Prop} [Decidable p] {x y : Prop} : Stp (@Ite (Decidable.decide p) ⟨x⟩ ⟨y⟩) ((p → x) ∧ (¬ p → y)) := ⟨fun h => Ite.decide h.1 h.2⟩
theorem rs {p q : Prop} [h : Stp p q] (k : q) : p := h.go k
theorem rc {p K : Prop} (k : K) (h : p := by first | omega | (with_reducible refine Chk.intro ?_ ?_ <;> omega) | (simp; done) | (simp; omega)) : Chk p K := ⟨h, k⟩
theorem rl {e : Int} {K : Int → Prop} (k : K e) (h1 : -9223372036854775808 ≤ e := by omega) (h2 : e ≤ 9223372036854775807 := by omega) : LetW .i64 e K := LetW.i64 h1 h2 k
theorem rh {e : Int} {K : Int → Prop} (k : K e) (h1 : 0 ≤ e := by omega) (h2 : e ≤ 255 := by omega) : LetW .u8 e K := LetW.u8 h1 h2 k
theorem rt {p : Prop} [Decidable p] {x y : Prop} (k : p → x) (h : ¬ p → False := by (intro _; omega)) : @Ite (Decidable.decide p) ⟨x⟩ ⟨y⟩ := Ite.decide k fun h' => (h h').elim
theorem rf {p : Prop} [Decidable p] {x y : Prop} (k : ¬ p → y) (h : p → False := by (intro _; omega)) : @Ite (Decidable.decide p) ⟨x⟩ ⟨y⟩ := Ite.decide (fun h' => (h h').elim) k
theorem ru {k : IntKind} {e : Int} {K : Int → Prop} (kk : K e) (h : (k = .u64 ∧ 0 ≤ e ∧ e ≤ 18446744073709551615) ∨ (k = .u32 ∧ 0 ≤ e ∧ e ≤ 4294967295) ∨ (k = .i32 ∧ -2147483648 ≤ e ∧ e ≤ 2147483647) := by
    first | (refine Or.inl ⟨rfl, ?_, ?_⟩ <;> omega) | (refine Or.inr (Or.inl ⟨rfl, ?_, ?_⟩) <;> omega) | (refine Or.inr (Or.inr ⟨rfl, ?_, ?_⟩) <;> omega)) : LetW k e K := by
  rcases h with ⟨rfl, h1, h2⟩ | ⟨rfl, h1, h2⟩ | ⟨rfl, h1, h2⟩
  · exact LetW.inR (InK_u64.2 ⟨h1, h2⟩) kk
  · exact LetW.inR (InK_u32.2 ⟨h1, h2⟩) kk
  · exact LetW.inR (InK_i32.2 ⟨h1, h2⟩) kk
/-- Out of range: by the value. -/
theorem LetW.at {k : IntKind} {e : Int} {K : Int → Prop} (m : Int) (h : k.wrap e = m) (kk : K m) : LetW k e K := fun n hn _ => by rw [hn, h]; exact kk
/-- A call by a contract that hands nothing over. -/
theorem VcCall.k {P : Program} {w0 : World} {T0 : Bs} [hG : GlB P w0 T0] {f : Nat} {args args' : List AV} {out : AV} {s : S} {K : AV → S → Prop} (h : FnOk P f args' out []) (hk : K (ren (fun j => s.next + j) out) (s.after s.rows 0 []))
    (h1 : noRo out = true := by rfl) (h2 : Fv.below 0 out = true := by rfl) (ha : argOkL s.rows args args' := by
      simp only [noIdR_ok, argOkL, argOk, allOk, argOkN, List.drop_zero, lk, reduceIte, reduceCtorEq, Nat.reduceEqDiff, Option.some.injEq, Item.row.injEq, Item.box.injEq, AV.ro.injEq, exists_eq_left, exists_and_left, exists_eq_left', exists_eq_right, and_assoc, and_true, true_and, List.cons.injEq, exists_eq', exists_eq]) :
    @VcCall P w0 T0 f args s ⟨K⟩ := VcCall.fr (FnFr.of_ok h h1 rfl) ha 0 h2 trivial hk
end Go.Fv

/-
  What a row's first world gives of package-level integers.
-/
namespace Go.Fv
set_option linter.unusedSectionVars false
open Go.RowKit Go.ChangeShapes Go.WideShapes
set_option linter.unusedVariables false
set_option linter.unusedSimpArgs false

def shBlk (w : World) (P : Program) (g : Nat) (k : IntKind) : Bool := match (w.heap[g]?).bind Obj.row? with
  | some (zero, t) => decide (zero.size = 1) && P.buildable t && decide (P.cellTypes P.depth t = some [t]) && (match P.underlying t with | some (.int k') => decide (k' = k) | _ => false)
  | none => false
/-- Each package-level variable of an integer type has one cell of that type. -/
def shOkT (P : Program) : Bool := (List.range P.globals.size).all fun g => match intGl P g with
  | some k => shBlk (begin P (fun _ _ => 0) default).world P g k
  | none => true
theorem GlOk.of_shapedT {P : Program} {w : World} (hs : shOkT P = true) (h : w.ShapedOpen P) (htab : ∀ g, tabGl P g = true → ∃ ob, w.heap[g]? = some ob ∧ GkAt .tab ob) : GlOk P w := by
  suffices hI : ∀ g k, intGl P g = some k → ∃ (n : Int) (t : TypeId), InK k n ∧ w.heap[g]? = some (.cells #[.int k n] t (0, 0)) by
    intro g k hg
    unfold glK at hg
    split at hg
    · rename_i k' hk
      cases hg
      obtain ⟨n, t, h1, h2⟩ := hI g k' hk
      exact ⟨_, h2, n, t, h1, rfl⟩
    · split at hg
      · rename_i ht
        cases hg
        exact htab g ht
      · cases hg
  intro g k hg
  have hlt : g < P.globals.size := by
    by_cases hlt : g < P.globals.size
    · exact hlt
    · unfold intGl at hg
      rw [Array.getElem?_eq_none (Nat.le_of_not_lt hlt)] at hg
      cases hg
  have h1 := List.all_eq_true.1 hs g (List.mem_range.2 hlt)
  rw [hg] at h1
  dsimp only at h1
  unfold shBlk at h1
  split at h1
  · rename_i zero t hz
    simp only [Bool.and_eq_true, decide_eq_true_eq] at h1
    obtain ⟨⟨⟨hz1, hb⟩, hc⟩, hu⟩ := h1
    have hu : P.underlying t = some (.int k) := by
      split at hu
      · rename_i k' e; rw [e, of_decide_eq_true hu]
      · cases hu
    obtain ⟨cs, hh, hsz, hr⟩ := h.1 g zero t hlt hz
    obtain ⟨ts, hts, _, hall⟩ := hr hb
    rw [hc] at hts
    cases hts
    have h1 : 0 < cs.size := by omega
    obtain ⟨u, hu', hok⟩ := hall 0 cs[0] (by simp [h1])
    have : u = t := by simpa using hu'.symm
    subst this
    unfold Cell.ok at hok
    rw [hu] at hok
    have e : cs = #[cs[0]] := by
      apply Array.ext
      · simp; omega
      · intro i h1 h2
        simp at h2
        subst h2; simp
    cases hv : cs[0] <;> rw [hv] at hok <;> simp at hok
    case int k' n =>
      obtain ⟨rfl, hk⟩ := hok
      refine ⟨n, u, ?_, by rw [hh, e, hv]⟩
      exact hk
  · cases h1
variable {H : Type} {enc : TypeId × Value → H}
end Go.Fv

/-
  What a row's laid table gives of math/bits.deBruijn64tab.
-/
namespace Go.Fv
set_option linter.unusedSectionVars false
open Go.RowKit Go.ChangeShapes Go.WideShapes
set_option linter.unusedVariables false
set_option linter.unusedSimpArgs false

def tabD : DataW Unit := Lib.tabData .u8 (Lib.deBruijn64tab.map Int.ofNat)
theorem tab_of_laid {P : Program} {W : World} {l : List (String × DataW Unit)} {g0 : Nat} {t e : TypeId} (hl : (l.filter fun x => x.1 == "math/bits.deBruijn64tab") = [("math/bits.deBruijn64tab", tabD)]) (hh : tabD.handleName? = none)
    (hg : P.globalNamed "math/bits.deBruijn64tab" = some g0) (hty : (P.globals[g0]?).map (·.type) = some t) (ht : P.underlying t = some (.array 64 e)) (he : P.underlying e = some (.int .u8)) (hce : P.cellsOf e = 1) (hct : P.cellsOf t = 64)
    (hu : ((List.range P.globals.size).all fun g => tabGl P g == (g == g0)) = true) (h : laidMetH P l W) : ∀ g, tabGl P g = true → ∃ ob, W.heap[g]? = some ob ∧ GkAt .tab ob := by
  intro g hgt
  have hlt : g < P.globals.size := by
    by_cases hlt : g < P.globals.size
    · exact hlt
    · unfold tabGl at hgt
      rw [Array.getElem?_eq_none (Nat.le_of_not_lt hlt)] at hgt
      cases hgt
  have h1 := List.all_eq_true.1 hu g (List.mem_range.2 hlt)
  rw [hgt] at h1
  obtain rfl : g = g0 := by simpa using h1
  have h2 := laidMetH.filter (fun x => x.1 == "math/bits.deBruijn64tab") h
  rw [hl] at h2
  have h3 := (laidMetH_iff.1 h2).1
  have e1 : ([("math/bits.deBruijn64tab", tabD)].filter fun x => x.2.handleName?.isNone) = [("math/bits.deBruijn64tab", tabD)] := by simp [hh]
  rw [e1] at h3
  have h4 := Lib.tabIs_of_head hg hty ht he hce hct h3
  obtain ⟨ps, ⟨g', t', cs, fuel, p, q, hg', ht', hvar, hd, _, rfl⟩, _, hfree⟩ := h3
  obtain rfl := Option.some.inj (hg.symm.trans hg')
  unfold Lib.TabIs at h4
  have hcs : cs = ((Lib.deBruijn64tab.map Int.ofNat).map fun z => Value.int .u8 z).toArray := Option.some.inj (hvar.symm.trans h4)
  have h64 : cs.size = 64 := by rw [hcs]; rfl
  obtain ⟨⟨c, t2, hc⟩, _⟩ := hfree g 0 (by
    simp only [List.mem_append]
    refine .inl (.inl ?_)
    unfold MemPlace.row
    exact List.mem_map.2 ⟨0, List.mem_range.2 (by omega), rfl⟩)
  have hv := hvar
  unfold World.var? at hv
  rw [hg] at hv
  simp only [Option.bind_some, hc] at hv
  refine ⟨_, hc, t2, ?_⟩
  rw [Option.some.inj hv, hcs]
  simp only [List.map_map]
  rfl

variable {H : Type} {enc : TypeId × Value → H}
/-- As handed_of_change, what the row asks handed on too. -/
theorem handed_of_changeX {a : Assume} {C : Checked} {os : Os} {f : FuncId} {fn : Func} {s : ChangeSpec} {conds : List PathCond} {apart fresh handsOn again : Bool} {X : World → Array Value → Prop}
    (hX : ∀ (w w' : World) (args : Array Value), w.heap = w'.heap → X w args → X w' args)
    (own : ownKnob C.prog.godebug = none) (started : os.Started) (noInit : C.prog.inits.idxOf? f = none) (hfn : C.prog.funcs[f]? = some fn)
    (witness : ∃ (w : World) (tape : Tape) (i : Input), w.os = os ∧ (w.forCall tape i).Shaped C.prog ∧ i.vars = [] ∧ Input.okWide C.prog (w.forCall tape i) .any w.heap.size f i ∧
      ((s.pre enc C.prog fn conds apart (w.forCall tape i).memory i.args ∧ X (w.forCall tape i).memory i.args) ∧ sizedMet enc C.prog fn (OpenSpec.ofChange s) apart (w.forCall tape i).memory i.args) ∧ a.holds C.prog (lone (Frame.enter C.prog f i.args .normal) [] (w.forCall tape i)))
    (contract : ∀ (W : World) (base : Nat) (args : Array Value) (ds gs : List (DataW H)) (before : List MemPlace), W.ShapedOpen C.prog → X W args → (DataW.weightsEach C.prog (fn.params.toList ++ (OpenSpec.ofChange s).bare.plain.varTypes C.prog) (ds ++ gs)).all (· ≤ reachBytes) = true →
      (∀ (j : Nat) t v, fn.params[j]? = some t → args[j]? = some v → Value.okWide C.prog W .any base t v) →
      DataW.Whole enc C.prog fn.params.toList s.vars apart W args.toList ds gs before →
      Calls C.prog f args W fun e W' => ∃ v, e = .returned v ∧ s.post enc C.prog fn apart fresh handsOn again W args v W') :
    ReturnsInHanded a C os f .any (fun w args => (s.pre enc C.prog fn conds apart w args ∧ X w args) ∧ sizedMet enc C.prog fn (OpenSpec.ofChange s) apart w args) (s.post enc C.prog fn apart fresh handsOn again) := by
  refine returnsInHanded_of_calls own started noInit witness ?_
  intro w tape i _ hsh _ hok hpre hholds
  obtain ⟨_, _, _, fn', hfn', _, _, _, _, hval⟩ := hok
  have e : fn' = fn := Option.some.inj (hfn'.symm.trans hfn)
  subst e
  obtain ⟨⟨⟨ds, gs, before, hw, hc⟩, hx⟩, hz⟩ := hpre
  have hw' := DataW.Whole.of_heap (w' := w.forCall tape i) (by rfl) hw
  refine (contract (w.forCall tape i) w.heap.size i.args ds gs before hsh (hX _ _ _ (by rfl : (w.forCall tape i).memory.heap = (w.forCall tape i).heap) hx) (hz.weights hw) hval hw').mono fun e W' ⟨v, he, hp⟩ => ?_
  subst he
  exact ChangeSpec.post_blind hp
end Go.Fv

/-
  What arrives: arguments of every shape, as the row's reading gives them.
-/
namespace Go.Fv
set_option linter.unusedSectionVars false
open Go.RowKit
set_option linter.unusedVariables false
set_option linter.unusedSimpArgs false

inductive All2 {α β : Type} (R : α → β → Prop) : List α → List β → Prop
  | nil : All2 R [] []
  | cons {a : α} {b : β} {l : List α} {m : List β} (h : R a b) (t : All2 R l m) : All2 R (a :: l) (b :: m)
section
variable {H : Type} {enc : TypeId × Value → H} {P : Program} {w : World} {fuel : Nat} {t : TypeId} {cs : List Value} {x : DataW H × List MemPlace}

abbrev cIn (w : World) : Ctx := ⟨w, fun _ => True, fun _ => undef, 0⟩
/-- The cells that stand at 'cs' are read as 't', in a world that may be read wherever. -/
def Rd (enc : TypeId × Value → H) (P : Program) (w : World) (t : TypeId) (cs : List Value) (x : DataW H × List MemPlace) : Prop := ∃ fuel, DataW.trod enc P w 0 (fun _ => true) true fuel t cs = some x

theorem Rd.bool (ht : P.underlying t = some .bool) (h : Rd enc P w t cs x) : ∃ b, RvL (cIn w) [.bool b] cs := by
  obtain ⟨f, h⟩ := h
  obtain ⟨b, rfl, _⟩ := DataW.trod_bool ht h
  exact ⟨b, .cons _ _ _ _ (.bool b) rfl .nil⟩
theorem InK_wf {k : IntKind} {n : Int} (h : (Lit.int k n).wf = true) : InK k n := by
  simpa [Lit.wf, InK] using h
theorem Rd.int {k : IntKind} (ht : P.underlying t = some (.int k)) (h : Rd enc P w t cs x) : ∃ n, InK k n ∧ RvL (cIn w) [.int k n] cs := by
  obtain ⟨f, h⟩ := h
  obtain ⟨n, rfl, _, hw⟩ := DataW.trod_int ht h
  exact ⟨n, InK_wf hw, .cons _ _ _ _ (.int k n (InK_wf hw)) rfl .nil⟩
theorem Rd.str (ht : P.underlying t = some .string) (h : Rd enc P w t cs x) : ∃ s : List UInt8, x.1 = .lit (.string s) ∧ RvL (cIn w) [.str s] cs := by
  obtain ⟨f, h⟩ := h
  obtain ⟨s, rfl, rfl, hw⟩ := DataW.trod_string ht h
  exact ⟨s.data.toList, rfl, .cons _ _ _ _ (.str _ (by simpa using hw)) rfl .nil⟩

theorem cells_of {base : Nat} {a : Addr} {n : Nat} {vs : List Value} (h : w.cells? base a n = some vs) : vs.length = n ∧ ∀ j u, vs[j]? = some u → w.cell? (a.add j) = some u := by
  obtain ⟨h1, h2, h3⟩ := World.cells?_some h
  refine ⟨h2, fun j u hu => ?_⟩
  have hj : j < n := by rw [← h2]; exact (List.getElem?_eq_some_iff.1 hu).1
  rw [h3 j hj, hu]

/-- A slice: its elements, each read; where they lie. -/
theorem Rd.slice {e : TypeId} (ht : P.underlying t = some (.slice e)) (h : Rd enc P w t cs x) :
    (cs = [.slice none 0 0] ∧ x.1 = .nil) ∨ ∃ (a : Addr) (len cap : Nat) (els : List (List Value × (DataW H × List MemPlace))) (spare : List (DataW H)), cs = [.slice (some a) len cap] ∧ len ≤ cap ∧ cap ≤ maxLen ∧ els.length = len ∧ x.1 = .slice (els.map (·.2.1)) spare ∧
      (∀ y, y ∈ els → Rd enc P w e y.1 y.2 ∧ y.1.length = P.cellsOf e) ∧ ∀ i y, els[i]? = some y → ∀ j u, y.1[j]? = some u → w.cell? (a.add (i * P.cellsOf e + j)) = some u := by
  obtain ⟨f, h⟩ := h
  rcases DataW.trod_slice ht h with ⟨rfl, rfl⟩ | ⟨a, len, cap, elems, rest, n, _, rfl, rfl, _, hl, hm, hlen, hel, _, _⟩
  · exact .inl ⟨rfl, rfl⟩
  refine .inr ?_
  have each : ∀ i, i < len → ∃ vs y, w.cells? 0 (a.add (i * P.cellsOf e)) (P.cellsOf e) = some vs ∧ DataW.trod enc P w 0 (fun _ => true) true n e vs = some y ∧ elems[i]? = some y := by
    intro i hi
    have := hel i hi
    have hi' : i < elems.length := by omega
    rw [List.getElem?_eq_getElem hi', Option.bind_eq_some_iff] at this
    obtain ⟨vs, h1, h2⟩ := this
    exact ⟨vs, _, h1, h2, List.getElem?_eq_getElem hi'⟩
  let vsAt : Nat → List Value := fun i => (w.cells? 0 (a.add (i * P.cellsOf e)) (P.cellsOf e)).getD []
  have hadd : ∀ (m j : Nat), (a.add m).add j = a.add (m + j) := by
    intro m j
    unfold Addr.add
    by_cases hn : m = 0
    · subst hn; simp
    · by_cases hj : j = 0
      · subst hj; simp [hn]
      · simp [hn, hj, Nat.add_assoc]
  refine ⟨a, len, cap, elems.zipIdx.map (fun y => (vsAt y.2, y.1)), rest.map (·.1), rfl, hl, hm, by simp [hlen], ?_, ?_, ?_⟩
  · simp only [List.map_map]
    congr 1
    have : (fun y : (DataW H × List MemPlace) × Nat => y.1.1) = (fun y => y.1) ∘ Prod.fst := rfl
    show elems.map (·.1) = elems.zipIdx.map (fun y => y.1.1)
    rw [this, ← List.map_map]
    simp
  · intro y hy
    obtain ⟨z, hz, rfl⟩ := List.mem_map.1 hy
    obtain ⟨i, hi⟩ := List.getElem?_of_mem hz
    rw [List.getElem?_zipIdx] at hi
    simp only [Nat.zero_add, Option.map_eq_some_iff] at hi
    obtain ⟨u, hu, rfl⟩ := hi
    have hlt : i < len := by rw [← hlen]; exact (List.getElem?_eq_some_iff.1 hu).1
    obtain ⟨vs, y', h1, h2, h3⟩ := each i hlt
    have : y' = u := by rw [hu] at h3; exact (Option.some.inj h3).symm
    subst this
    refine ⟨⟨n, ?_⟩, ?_⟩
    · show DataW.trod enc P w 0 (fun _ => true) true n e ((w.cells? 0 (a.add (i * P.cellsOf e)) (P.cellsOf e)).getD []) = _
      rw [h1]; exact h2
    · show ((w.cells? 0 (a.add (i * P.cellsOf e)) (P.cellsOf e)).getD []).length = _
      rw [h1]; exact (cells_of h1).1
  · intro i y hy j u hu
    rw [List.getElem?_map, List.getElem?_zipIdx] at hy
    simp only [Nat.zero_add, Option.map_map, Option.map_eq_some_iff] at hy
    obtain ⟨z, hz, rfl⟩ := hy
    have hlt : i < len := by rw [← hlen]; exact (List.getElem?_eq_some_iff.1 hz).1
    obtain ⟨vs, y', h1, _, _⟩ := each i hlt
    have hu' : vs[j]? = some u := by
      have : ((w.cells? 0 (a.add (i * P.cellsOf e)) (P.cellsOf e)).getD [])[j]? = some u := hu
      rw [h1] at this; exact this
    rw [← hadd]; exact (cells_of h1).2 j u hu'

/-- Elements one behind the other. -/
theorem cells_join {els : List (List Value)} {n : Nat} {a : Addr} (hn : ∀ y, y ∈ els → y.length = n) (h : ∀ i y, els[i]? = some y → ∀ j u, y[j]? = some u → w.cell? (a.add (i * n + j)) = some u) : ∀ j u, els.flatten[j]? = some u → w.cell? (a.add j) = some u := by
  induction els generalizing a with
  | nil => intro j u hu; simp at hu
  | cons y l ih =>
    intro j u hu
    have hy := hn y (.head _)
    by_cases hj : j < y.length
    · rw [List.flatten_cons, List.getElem?_append_left hj] at hu
      have := h 0 y rfl j u hu
      simpa using this
    · rw [List.flatten_cons, List.getElem?_append_right (by omega)] at hu
      have hadd : ∀ (m j : Nat), (a.add m).add j = a.add (m + j) := by
        intro m j
        unfold Addr.add
        by_cases hn : m = 0
        · subst hn; simp
        · by_cases hj : j = 0
          · subst hj; simp [hn]
          · simp [hn, hj, Nat.add_assoc]
      have := ih (a := a.add n) (fun z hz => hn z (.tail _ hz)) (fun i z hz k v hv => by
        have := h (i + 1) z (by simpa using hz) k v hv
        rw [hadd]
        rwa [show (i + 1) * n + k = n + (i * n + k) by rw [Nat.succ_mul]; omega] at this) (j - y.length) u hu
      rw [hadd] at this
      rwa [show n + (j - y.length) = j by omega] at this

/-- A slice as a row: 'f' says what an element reads as; 'row' the row of the elements. -/
theorem Rd.row {e : TypeId} {β : Type} (ht : P.underlying t = some (.slice e)) (row : List β → RowV) (hlen : ∀ l, (row l).len = l.length) (hnil : RowC (cIn w) (row []) [])
    (R : β → List Value → Prop) (hrow : ∀ l vss, All2 R l vss → RowC (cIn w) (row l) vss.flatten)
    (Q : β → DataW H → Prop) (hel : ∀ vs y, Rd enc P w e vs y → ∃ b, R b vs ∧ Q b y.1) (h : Rd enc P w t cs x) :
    ∃ l : List β, RvL (cIn w) [.ro (row l)] cs ∧ ((x.1 = .nil ∧ l = []) ∨ ∃ ds sp, x.1 = .slice ds sp ∧ All2 Q l ds) := by
  rcases h.slice ht with ⟨rfl, hx⟩ | ⟨a, len, cap, els, sp, rfl, hl, hm, hlen', hx, hall, hcell⟩
  · exact ⟨[], .cons _ _ _ _ (.roNil _ hnil (hnil.noid0 rfl)) rfl .nil, .inl ⟨hx, rfl⟩⟩
  have key : ∀ els : List (List Value × (DataW H × List MemPlace)), (∀ y, y ∈ els → Rd enc P w e y.1 y.2) → ∃ l : List β, All2 R l (els.map (·.1)) ∧ All2 Q l (els.map (·.2.1)) := by
    intro els
    induction els with
    | nil => intro _; exact ⟨[], .nil, .nil⟩
    | cons y els ih =>
      intro hh
      obtain ⟨b, h1, h2⟩ := hel y.1 y.2 (hh y (.head _))
      obtain ⟨l, h3, h4⟩ := ih fun z hz => hh z (.tail _ hz)
      exact ⟨b :: l, .cons h1 h3, .cons h2 h4⟩
  obtain ⟨l, h1, h2⟩ := key els fun y hy => (hall y hy).1
  have hll : l.length = len := by
    have : ∀ (l : List β) (vss : List (List Value)), All2 R l vss → l.length = vss.length := by
      intro l vss h; induction h with | nil => rfl | cons _ _ ih => simp [ih]
    have := this _ _ h1
    simpa [hlen'] using this
  refine ⟨l, .cons _ _ _ _ (.ro _ a len cap _ (hrow _ _ h1) (by rw [hlen, hll]) hl hm ⟨trivial, fun _ => trivial, ?_⟩ ((hrow _ _ h1).noid0 rfl)) rfl .nil, .inr ⟨_, _, hx, h2⟩⟩
  refine cells_join (n := P.cellsOf e) (fun y hy => ?_) (fun i y hy j u hu => ?_)
  · obtain ⟨z, hz, rfl⟩ := List.mem_map.1 hy; exact (hall z hz).2
  · rw [List.getElem?_map] at hy
    simp only [Option.map_eq_some_iff] at hy
    obtain ⟨z, hz, rfl⟩ := hy
    exact hcell i z hz j u hu

theorem RowC.intsIn {c : Ctx} {k : IntKind} {l : List Int} {cells : List Value} (h : RowC c (.ints k l) cells) : ∀ n, n ∈ l → InK k n := by
  generalize hr : RowV.ints k l = r at h
  cases h <;> cases hr
  assumption
def lenD : DataW H → Nat
  | .slice ds _ => ds.length
  | .lit (.string s) => s.length
  | _ => 0
theorem All2.length {α β : Type} {R : α → β → Prop} {l : List α} {m : List β} (h : All2 R l m) : l.length = m.length := by
  induction h with | nil => rfl | cons _ _ ih => simp [ih]

theorem Rd.bools {e : TypeId} (ht : P.underlying t = some (.slice e)) (he : P.underlying e = some .bool) (h : Rd enc P w t cs x) : ∃ l : List Bool, RvL (cIn w) [.ro (.bools l)] cs ∧ l.length = lenD x.1 := by
  obtain ⟨l, h1, h2⟩ := Rd.row (β := Bool) ht .bools (fun _ => rfl) (.bools []) (fun b vs => vs = [.bool b]) (fun l vss hv => by
    have : vss.flatten = l.map Value.bool := by induction hv with | nil => rfl | cons h _ ih => subst h; simp [ih]
    rw [this]; exact .bools l) (fun _ _ => True) (fun vs y hy => by
      obtain ⟨f, hy⟩ := hy
      obtain ⟨b, rfl, _⟩ := DataW.trod_bool he hy
      exact ⟨b, rfl, trivial⟩) h
  refine ⟨l, h1, ?_⟩
  rcases h2 with ⟨e1, e2⟩ | ⟨ds, sp, e1, e2⟩
  · rw [e1, e2]; rfl
  · rw [e1]; exact e2.length
theorem Rd.ints {e : TypeId} {k : IntKind} (ht : P.underlying t = some (.slice e)) (he : P.underlying e = some (.int k)) (h : Rd enc P w t cs x) : ∃ l : List Int, (∀ n, n ∈ l → InK k n) ∧ RvL (cIn w) [.ro (.ints k l)] cs ∧ l.length = lenD x.1 := by
  obtain ⟨l, h1, h2⟩ := Rd.row (β := Int) ht (.ints k) (fun _ => rfl) (.ints k [] (fun x hx => by cases hx)) (fun n vs => vs = [.int k n] ∧ InK k n) (fun l vss hv => by
    have : vss.flatten = l.map (Value.int k) ∧ ∀ n, n ∈ l → InK k n := by
      induction hv with
      | nil => exact ⟨rfl, fun n hn => by cases hn⟩
      | cons h _ ih =>
        obtain ⟨rfl, h2⟩ := h
        refine ⟨by simp [ih.1], fun n hn => ?_⟩
        cases List.mem_cons.1 hn with
        | inl e => subst e; exact h2
        | inr e => exact ih.2 n e
    rw [this.1]; exact .ints k l this.2) (fun _ _ => True) (fun vs y hy => by
      obtain ⟨f, hy⟩ := hy
      obtain ⟨n, rfl, _, hw⟩ := DataW.trod_int he hy
      exact ⟨n, ⟨rfl, InK_wf hw⟩, trivial⟩) h
  have hin : ∀ n, n ∈ l → InK k n := by
    cases h1 with
    | cons _ v _ _ hv _ _ =>
      cases hv with
      | roNil _ hr => exact hr.intsIn
      | ro _ _ _ _ _ hr => exact hr.intsIn
  refine ⟨l, hin, h1, ?_⟩
  rcases h2 with ⟨e1, e2⟩ | ⟨ds, sp, e1, e2⟩
  · rw [e1, e2]; rfl
  · rw [e1]; exact e2.length

/-! ### Arguments one by one -/
theorem arg_one {base : Nat} {v : Value} {d : TypeDesc} (ht : P.underlying t = some d) (hd : d = .bool ∨ (∃ k, d = .int k) ∨ d = .string ∨ ∃ e, d = .slice e) (h : Value.okWide P w .any base t v) : v.cells.toList = [v] := by
  unfold Value.okWide at h
  rw [ht] at h
  have h' : Cell.okWide P w .any base t v := by
    rcases hd with rfl | ⟨k, rfl⟩ | rfl | ⟨e, rfl⟩ <;> exact h
  unfold Cell.okWide at h'
  rw [ht] at h'
  have h2 : Cell.ok P w .any base t v := by
    rcases hd with rfl | ⟨k, rfl⟩ | rfl | ⟨e, rfl⟩ <;> exact h'
  unfold Cell.ok at h2
  rw [ht] at h2
  cases v <;> first | rfl | (rcases hd with rfl | ⟨k, rfl⟩ | rfl | ⟨e, rfl⟩ <;> exact h2.elim)
theorem RvL.hd {c : Ctx} {a : AV} {v : Value} (h : RvL c [a] [v]) : Rv c a v := by cases h; assumption

theorem Trod.rd {v : Value} {d : DataW H} {ps : List MemPlace} (h : DataW.Trod enc P w 0 (fun _ => true) true t v d ps) : Rd enc P w t v.cells.toList (d, ps) := h

theorem arg_int {base : Nat} {v : Value} {d : DataW H} {ps : List MemPlace} {k : IntKind} (ht : P.underlying t = some (.int k)) (hv : Value.okWide P w .any base t v) (h : DataW.Trod enc P w 0 (fun _ => true) true t v d ps) : ∃ n, InK k n ∧ Rv (cIn w) (.int k n) v := by
  obtain ⟨b, hk, hb⟩ := (Trod.rd h).int ht
  rw [arg_one ht (.inr (.inl ⟨k, rfl⟩)) hv] at hb
  exact ⟨b, hk, hb.hd⟩
theorem arg_str {base : Nat} {v : Value} {d : DataW H} {ps : List MemPlace} (ht : P.underlying t = some .string) (hv : Value.okWide P w .any base t v) (h : DataW.Trod enc P w 0 (fun _ => true) true t v d ps) : ∃ s : List UInt8, d = .lit (.string s) ∧ Rv (cIn w) (.str s) v := by
  obtain ⟨b, hk, hb⟩ := (Trod.rd h).str ht
  rw [arg_one ht (.inr (.inr (.inl rfl))) hv] at hb
  exact ⟨b, hk, hb.hd⟩
/-! ### What the row asks behind the call -/
theorem stays_all (hl : laidOutB P = true) {W W' : World} (hB : Below W.heap.size W W') : ∀ {ts : List TypeId} {vs : List Value} {ds : List (DataW H)} {ps : List MemPlace}, (∀ t, t ∈ ts → P.readableRec t = true ∧ t < P.types.size) →
    DataW.TrodAll enc P W 0 (fun _ => true) true ts vs ds ps → (∀ p, p ∈ ps → p.block < W.heap.size) → DataW.TrodAll enc P W' 0 (fun b => decide (b < W.heap.size)) true ts vs ds ps
  | [], _, _, _, _, h, _ => by
    obtain ⟨rfl, rfl, rfl⟩ := ChangeShapes.trodAll_nil h
    exact h
  | t :: ts, _, _, _, hr, h, hlt => by
    obtain ⟨v, vs, d, ds, p, q, rfl, rfl, rfl, h1, h2⟩ := ChangeShapes.trodAll_cons h
    obtain ⟨k1, k2⟩ := hr t (.head _)
    exact ⟨p, q, Below.trod hl k1 k2 h1 hB (fun x hx => hlt x (List.mem_append.2 (.inl hx))), stays_all hl hB (fun u hu => hr u (.tail _ hu)) h2 (fun x hx => hlt x (List.mem_append.2 (.inr hx))), rfl⟩

theorem all_len : ∀ {ts : List TypeId} {vs : List Value} {ds : List (DataW H)} {ps : List MemPlace} {W : World}, DataW.TrodAll enc P W 0 (fun _ => true) true ts vs ds ps → ds.length = ts.length
  | [], _, _, _, _, h => by obtain ⟨rfl, rfl, rfl⟩ := ChangeShapes.trodAll_nil h; rfl
  | t :: ts, _, _, _, _, h => by
    obtain ⟨v, vs, d, ds, p, q, rfl, rfl, rfl, h1, h2⟩ := ChangeShapes.trodAll_cons h
    simp [all_len h2]

/-- A law that answers true, and has changed nothing that there was. -/
theorem post_true {f : Func} {s : ChangeSpec} {W W' : World} {args : Array Value} {ds gs : List (DataW H)} {before : List MemPlace} {tb : TypeId}
    (hW : DataW.Whole enc P f.params.toList s.vars false W args.toList ds gs before) (hvars : s.vars = []) (hfn : ∀ l : List (DataW H), l.length = f.params.size → s.fn H l = { results := [.lit (.bool true)], args := l })
    (hres : f.resultTypes = #[tb]) (hb : P.underlying tb = some .bool) (hl : laidOutB P = true) (hr : ∀ t, t ∈ f.params.toList → P.readableRec t = true ∧ t < P.types.size) (hB : Below W.heap.size W W') :
    s.post enc P f false true false false W args (.bool true) W' := by
  have hlt := hW.lt
  have hW' := hW
  obtain ⟨p, q, hA, hV, rfl, _, _⟩ := hW'
  rw [hvars] at hV
  obtain ⟨rfl, rfl⟩ : gs = [] ∧ q = [] := by
    cases gs with
    | nil => exact ⟨rfl, hV⟩
    | cons _ _ => exact hV.elim
  have hf := hfn (ds ++ []) (by rw [List.append_nil, all_len hA]; simp)
  refine ⟨ds, [], p ++ [], [], p, [], hW, ?_, ?_, ?_, hB.frame _, fun h => by cases h⟩
  · rw [hf, hres]
    exact ⟨[], [], RowKit.shut_bool hb true, rfl, rfl⟩
  · rw [hf]
    have := stays_all (enc := enc) hl hB hr hA (fun x hx => hlt x (by simpa using hx))
    simpa using this
  · rw [hf, hvars]
    rfl

theorem calls_true {fid : Nat} {f : Func} {s : ChangeSpec} {W : World} {args : Array Value} {ds gs : List (DataW H)} {before : List MemPlace} {tb : TypeId} {avs : List AV} (h : FnOk P fid avs (.bool true) []) (hgl : GlOk P W) (ha : RvT (cIn W) avs args.toList)
    (hW : DataW.Whole enc P f.params.toList s.vars false W args.toList ds gs before) (hvars : s.vars = []) (hfn : ∀ l : List (DataW H), l.length = f.params.size → s.fn H l = { results := [.lit (.bool true)], args := l })
    (hres : f.resultTypes = #[tb]) (hb : P.underlying tb = some .bool) (hl : laidOutB P = true) (hr : ∀ t, t ∈ f.params.toList → P.readableRec t = true ∧ t < P.types.size) :
    Calls P fid args W fun e W' => ∃ v, e = .returned v ∧ s.post enc P f false true false false W args v W' := by
  refine (h.2 W (fun _ => True) args.toList hgl ha).mono ?_
  rintro e W' ⟨v, rfl, hB, m, N, hrv, _⟩
  cases hrv
  exact ⟨_, rfl, post_true hW hvars hfn hres hb hl hr hB.plain⟩
end
end Go.Fv

/-
  What arrives: structs.
-/
namespace Go.Fv
set_option linter.unusedSectionVars false
open Go.RowKit
set_option linter.unusedVariables false
set_option linter.unusedSimpArgs false

section
variable {H : Type} {enc : TypeId × Value → H} {P : Program} {w : World} {t : TypeId} {cs : List Value} {x : DataW H × List MemPlace}

theorem Rd.fields {fs : Array Field} (ht : P.underlying t = some (.struct fs)) (h : Rd enc P w t cs x) : cs.length = P.cellsOf t ∧ ∃ xs : List (DataW H × List MemPlace), x.1 = .agg (xs.map (·.1)) ∧ xs.length = fs.size ∧
    ∀ (i : Nat) (f : Field), fs[i]? = some f → ∃ y, xs[i]? = some y ∧ Rd enc P w f.type ((cs.drop f.offset).take (P.cellsOf f.type)) y := by
  obtain ⟨fuel, h⟩ := h
  obtain ⟨xs, n, _, rfl, hl, hn, hf⟩ := DataW.trod_struct ht h
  refine ⟨hl, xs, rfl, hn, fun i f hi => ?_⟩
  have hlt : i < xs.length := by rw [hn]; exact (Array.getElem?_eq_some_iff.1 hi).1
  refine ⟨xs[i], List.getElem?_eq_getElem hlt, n, ?_⟩
  rw [hf i f hi, List.getElem?_eq_getElem hlt]
theorem RvL.app {c : Ctx} : ∀ {l l' : List AV} {vs vs' : List Value}, RvL c l vs → RvL c l' vs' → RvL c (l ++ l') (vs ++ vs')
  | _, _, _, _, .nil, h => h
  | _, _, _, _, .cons x v l vs hx h1 ht, h => .cons x v _ _ hx h1 (ht.app h)
end
end Go.Fv

/-
  What arrives: rows of texts and of structs.
-/
namespace Go.Fv
set_option linter.unusedSectionVars false
open Go.RowKit
set_option linter.unusedVariables false
set_option linter.unusedSimpArgs false

section
variable {H : Type} {enc : TypeId × Value → H} {P : Program} {w : World} {t : TypeId} {cs : List Value} {x : DataW H × List MemPlace}

theorem RvL.str1 {c : Ctx} {s : List UInt8} {vs : List Value} (h : RvL c [.str s] vs) : vs = [.string ⟨s.toArray⟩] ∧ s.length ≤ maxLen := by
  cases h with
  | cons _ v _ _ hv _ ht =>
    cases ht
    cases hv with
    | str _ h => exact ⟨rfl, h⟩
theorem Rd.strs {e : TypeId} (ht : P.underlying t = some (.slice e)) (he : P.underlying e = some .string) (h : Rd enc P w t cs x) : ∃ l : List (List UInt8), (∀ s, s ∈ l → s.length ≤ maxLen) ∧ RvL (cIn w) [.ro (.strs l)] cs := by
  obtain ⟨l, h1, h2⟩ := Rd.row (β := List UInt8) ht .strs (fun _ => rfl) (.strs [] (fun x hx => by cases hx)) (fun b vs => RvL (cIn w) [.str b] vs) (fun l vss hv => by
    have : vss.flatten = l.map (fun s => Value.string ⟨s.toArray⟩) ∧ ∀ s, s ∈ l → s.length ≤ maxLen := by
      induction hv with
      | nil => exact ⟨rfl, fun s hs => by cases hs⟩
      | cons h _ ih =>
        obtain ⟨rfl, hl⟩ := h.str1
        refine ⟨by simp [ih.1], fun s hs => ?_⟩
        cases List.mem_cons.1 hs with
        | inl e => subst e; exact hl
        | inr e => exact ih.2 s e
    rw [this.1]; exact .strs l this.2) (fun _ _ => True) (fun vs y hy => by
      obtain ⟨s, _, hs⟩ := hy.str he
      exact ⟨s, hs, trivial⟩) h
  refine ⟨l, ?_, h1⟩
  cases h1 with
  | cons _ v _ _ hv _ _ =>
    have go : ∀ {cells : List Value}, RowC (cIn w) (.strs l) cells → ∀ s, s ∈ l → s.length ≤ maxLen := by
      intro cells hr
      generalize hq : RowV.strs l = r at hr
      cases hr <;> cases hq
      assumption
    cases hv with
    | roNil _ hr => exact go hr
    | ro _ _ _ _ _ hr => exact go hr
theorem Rd.objs {e : TypeId} {β : Type} (ht : P.underlying t = some (.slice e)) (n : Nat) (hn : 0 < n) (av : β → List AV) (hid : ∀ b, noIdL (av b) = true) (hlen : ∀ b, (av b).length = n) (I : β → Prop)
    (hel : ∀ vs y, Rd enc P w e vs y → ∃ b, RvL (cIn w) (av b) vs ∧ I b) (h : Rd enc P w t cs x) : ∃ l : List β, (∀ b, b ∈ l → I b) ∧ RvL (cIn w) [.ro (.objs n (l.map av))] cs := by
  obtain ⟨l, h1, h2⟩ := Rd.row (β := { b : β // I b }) ht (fun l => .objs n (l.map fun b => av b.1)) (fun l => by simp [RowV.len]) (.objs n [] [] hn (.nil n)) (fun b vs => RvL (cIn w) (av b.1) vs) (fun l vss hv => by
    refine .objs n _ _ hn ?_
    induction hv with
    | nil => exact .nil n
    | cons h _ ih => exact .cons n _ _ _ _ h (by rw [h.length]; exact hlen _) ih) (fun _ _ => True) (fun vs y hy => by
      obtain ⟨b, hb, hI⟩ := hel vs y hy
      exact ⟨⟨b, hI⟩, hb, trivial⟩) h
  refine ⟨l.map (·.1), fun b hb => ?_, ?_⟩
  · obtain ⟨y, _, rfl⟩ := List.mem_map.1 hb; exact y.2
  · rw [List.map_map]; exact h1
end
end Go.Fv

/-
  What arrives: structs, field by field.
-/
namespace Go.Fv
set_option linter.unusedSectionVars false
open Go.RowKit
set_option linter.unusedVariables false
set_option linter.unusedSimpArgs false
section
variable {H : Type} {enc : TypeId × Value → H} {P : Program} {w : World} {t : TypeId} {cs : List Value} {x : DataW H × List MemPlace}
theorem Rd.at {fs : Array Field} (ht : P.underlying t = some (.struct fs)) (h : Rd enc P w t cs x) (i : Nat) (f : Field) (hf : fs[i]? = some f) (o n : Nat) (ho : f.offset = o) (hn : P.cellsOf f.type = n) : ∃ y, Rd enc P w f.type ((cs.drop o).take n) y := by
  obtain ⟨_, xs, _, _, hx⟩ := h.fields ht
  obtain ⟨y, _, hy⟩ := hx i f hf
  rw [ho, hn] at hy
  exact ⟨y, hy⟩
theorem Rd.len {fs : Array Field} (ht : P.underlying t = some (.struct fs)) (h : Rd enc P w t cs x) : cs.length = P.cellsOf t := (h.fields ht).1
theorem cut2 {α : Type} (l : List α) (a b : Nat) (h : l.length = a + b) : l = (l.drop 0).take a ++ (l.drop a).take b := by
  rw [List.drop_zero]
  have : (l.drop a).take b = l.drop a := List.take_of_length_le (by simp; omega)
  rw [this, List.take_append_drop]
/-- A struct of two fields. -/
theorem Rd.s2 {f0 f1 : Field} (ht : P.underlying t = some (.struct #[f0, f1])) (a b : Nat) (hc : P.cellsOf t = a + b) (o : f0.offset = 0 ∧ f1.offset = a) (c : P.cellsOf f0.type = a ∧ P.cellsOf f1.type = b)
    {α β : Type} {av : α → List AV} {bv : β → List AV} (h0 : ∀ cs x, Rd enc P w f0.type cs x → ∃ l, RvL (cIn w) (av l) cs) (h1 : ∀ cs x, Rd enc P w f1.type cs x → ∃ l, RvL (cIn w) (bv l) cs) (h : Rd enc P w t cs x) :
    ∃ l m, RvL (cIn w) (av l ++ bv m) cs := by
  obtain ⟨y0, r0⟩ := h.at ht 0 f0 rfl _ _ o.1 c.1
  obtain ⟨y1, r1⟩ := h.at ht 1 f1 rfl _ _ o.2 c.2
  obtain ⟨l, v0⟩ := h0 _ _ r0
  obtain ⟨m, v1⟩ := h1 _ _ r1
  refine ⟨l, m, ?_⟩
  rw [cut2 cs a b (by rw [h.len ht, hc])]
  exact v0.app v1
end
end Go.Fv
