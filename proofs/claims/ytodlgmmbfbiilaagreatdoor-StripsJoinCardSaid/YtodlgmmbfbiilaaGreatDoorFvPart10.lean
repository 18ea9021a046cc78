/-
  A part of the proof of the claim: walks over the program's functions and the plain laws that these need. No condition of its own.
-/
import Derived.Test.YtodlgmmbfbiilaaGreatDoorFvPart8
import Derived.Test.YtodlgmmbfbiilaaGreatDoorFvPart9
/-
 Congruences: only the state of a word is reckoned out, not what stands behind it.
-/
namespace Go.Fv
set_option linter.unusedSectionVars false
set_option linter.unusedVariables false
section
variable {P : Program} {w0 : World} {T0 : Bs} {s s' : S} {K : AV → S → Prop}
@[congr] theorem vcGo_congr {ops : Array Oper} {o : Oper} {k : S → Prop} (h : s = s') : vcGo P w0 T0 ops o s k = vcGo P w0 T0 ops o s' k := by rw [h]
@[congr] theorem vcWhen_congr {o : Oper} {c c' : Bool} {s1 s2 : S} {k : S → Prop} (hc : c = c') (h : s = s') : vcWhen P w0 T0 o c s s1 s2 k = vcWhen P w0 T0 o c' s' s1 s2 k := by rw [hc, h]
@[congr] theorem vcOps_congr {ops : Array Oper} {l : List Oper} {k : S → Prop} (h : s = s') : vcOps P w0 T0 ops l s k = vcOps P w0 T0 ops l s' k := by rw [h]
@[congr] theorem vcTree_congr {ops : Array Oper} {l : DTree} {k : S → Prop} (h : s = s') : vcTree P w0 T0 ops l s k = vcTree P w0 T0 ops l s' k := by rw [h]
@[congr] theorem vcCode_congr {b0 : Nat} {c : Code} {Q : Exit → S → Prop} (h : s = s') : vcCode P w0 T0 b0 c Q s = vcCode P w0 T0 b0 c Q s' := by rw [h]
@[congr] theorem vcPut_congr {d : Option Nat} {v v' : AV} {k : S → Prop} (hv : v = v') (h : s = s') : vcPut d v s k = vcPut d v' s' k := by rw [hv, h]
@[congr] theorem vcOp_congr {o : Oper} (h : s = s') : vcOp P w0 T0 o s K = vcOp P w0 T0 o s' K := by rw [h]
@[congr] theorem vcCallOp_congr {c : Call} (h : s = s') : vcCallOp P w0 T0 c s K = vcCallOp P w0 T0 c s' K := by rw [h]
end
end Go.Fv
/-
 Facts about types, out of one glance each.
-/
namespace Go.Fv
set_option linter.unusedSectionVars false
set_option linter.unusedVariables false
def zOkB : Value → Bool
 | .int k n => inKB k n
 | .string s => s.size == 0
 | .agg cs => (cs.toList.all fun v => v.oneCell' && (match v with | .string s => s.size == 0 | _ => true)) && decide (0 < cs.size)
 | .tuple _ => false
 | _ => true
theorem zOk_of_B {v : Value} (h : zOkB v = true) : zOk v := by
 cases v <;> first | trivial | cases h; done | skip
 case int k n => exact InK_of_B h
 case string s =>
  have h' : s.size = 0 := by simpa [zOkB] using h
  show s.size ≤ maxLen
  rw [h']; exact Nat.zero_le _
 case agg cs =>
  simp only [zOkB, Bool.and_eq_true, List.all_eq_true, decide_eq_true_eq] at h
  refine ⟨fun v hv => ⟨(h.1 v hv).1, ?_⟩, h.2⟩
  have h2 := (h.1 v hv).2
  cases v <;> try trivial
  rename_i s
  have h' : s.size = 0 := by simpa using h2
  show s.size ≤ maxLen
  rw [h']; exact Nat.zero_le _
theorem ElemZ.of {P : Program} {e : TypeId} {z : Value} (h : (P.info? e).map (fun i => (i.zero, i.size, decide (i.bytes ≤ 1024))) = some (some z, z.cells.size, true)) (hz : zOkB z = true) : ElemZ P e z := by
 refine ⟨?_, zOk_of_B hz⟩
 cases hi : P.info? e with
 | none => rw [hi] at h; cases h
 | some i =>
  rw [hi] at h
  simp only [Option.map_some, Option.some.injEq, Prod.mk.injEq, decide_eq_true_eq] at h
  exact ⟨i, rfl, h.1, h.2.1, h.2.2⟩
theorem ElemZ.zero {P : Program} {e : TypeId} {z : Value} (h : ElemZ P e z) : zeroOf P e = some z := by
 obtain ⟨i, h1, h2, _⟩ := h.ex
 simp [zeroOf, h1, h2]
theorem ElemZ.cellsOf {P : Program} {e : TypeId} {z : Value} (h : ElemZ P e z) : P.cellsOf e = z.cells.size := by
 obtain ⟨i, h1, h2, h3, _⟩ := h.ex
 simp [Program.cellsOf, h1, h3]
end Go.Fv
/-
 The names of one state among those of another, found by looking; steps of a walk.
-/
namespace Go.Fv
set_option linter.unusedSectionVars false
set_option linter.unusedVariables false
mutual
def mkV : AV → AV → List (Nat × Nat)
 | .own i, y => match y with | .own k => [(i, k)] | _ => []
 | .ptr i _, y => match y with | .ptr k _ => [(i, k)] | _ => []
 | .elt i _ _ _, y => match y with | .elt k _ _ _ => [(i, k)] | _ => []
 | .pre i _, y => match y with | .pre k _ => [(i, k)] | _ => []
 | .agg l, y => match y with | .agg l' => mkL l l' | _ => []
 | .tup l, y => match y with | .tup l' => mkL l l' | _ => []
 | .fn _ l, y => match y with | .fn _ l' => mkL l l' | _ => []
 | .dead, _ => []
 | .nilS, _ => []
 | .bool _, _ => []
 | .int _ _, _ => []
 | .str _, _ => []
 | .ro _, _ => []
 | .cell _, _ => []
 | .raw _, _ => []
 | .opt _ x, y => match y with | .opt _ y' => mkV x y' | _ => []
 | .mp _ _, _ => []
def mkL : List AV → List AV → List (Nat × Nat)
 | [], _ => []
 | x :: l, ys => match ys with | y :: l' => mkV x y ++ mkL l l' | [] => []
end
def mkEnv (s : S) : List (Nat × AV) → List (Nat × Nat)
 | [] => []
 |(r, v) :: l => mkV v (s.get r) ++ mkEnv s l
def mkLL : List (List AV) → List (List AV) → List (Nat × Nat)
 | [], _ => []
 | x :: l, ys => match ys with | y :: l' => mkL x y ++ mkLL l l' | [] => []
def mkR : RowV → RowV → List (Nat × Nat)
 | .objs _ l, .objs _ l' => mkLL l l'
 | _, _ => []
def mkItem : Item → Option Item → List (Nat × Nat)
 | .box _ cs, some (.box _ cs') => mkL cs cs'
 | .row _ r, some (.row _ r') => mkR r r'
 | .map ks vs, some (.map ks' vs') => mkL ks ks' ++ mkL vs vs'
 | .iter i _ _, some (.iter k _ _) => [(i, k)]
 | _, _ => []
def mkRows (l : List (Nat × Nat)) (rows : List (Nat × Item)) : List (Nat × Item) → List (Nat × Nat)
 | [] => []
 |(i, it) :: rest => mkItem it (lk rows (pm l i)) ++ mkRows l rows rest
def mkRen (s s' : S) : List (Nat × Nat) := mkEnv s s'.env ++ mkRows (mkEnv s s'.env) s.rows s'.rows
theorem csz_int (k : IntKind) (n : Int) : (Value.int k n).cells.size = 1 := rfl
theorem csz_bool (b : Bool) : (Value.bool b).cells.size = 1 := rfl
theorem csz_str (b : ByteArray) : (Value.string b).cells.size = 1 := rfl
theorem csz_slice (a : Option Addr) (n m : Nat) : (Value.slice a n m).cells.size = 1 := rfl
theorem csz_ptr (a : Option Addr) : (Value.pointer a).cells.size = 1 := rfl
theorem csz_agg (a : Array Value) : (Value.agg a).cells.size = a.size := rfl
theorem Ite.bool {b : Bool} {x y : Prop} (h1 : b = true → x) (h2 : b = false → y) : @Ite b ⟨x⟩ ⟨y⟩ := ⟨h1, h2⟩
def fromL (b : Nat) : List (Nat × Nat) → List (Nat × Nat)
 | [] => []
 | x :: l => if b ≤ x.1 then x :: fromL b l else fromL b l
theorem fromL_ge (b : Nat) : ∀ (l : List (Nat × Nat)) x, x ∈ fromL b l → b ≤ x.1
 | y :: l, x, h => by
  simp only [fromL] at h
  split at h
  ·rename_i hb
   cases List.mem_cons.1 h with
   | inl e => subst e; exact hb
   | inr e => exact fromL_ge b l x e
  ·exact fromL_ge b l x h
section
variable {w0 : World} {T0 : Bs} {b0 : Nat}
theorem Ent.auto0 {s s' : S} (hn : s'.n = s.n) (he : envOk (pm (mkRen s s')) s s'.next s'.env) (hr : subOk (pm (mkRen s s')) s.rows s'.next s'.rows) : Ent w0 T0 0 s s' :=
 Ent.of (mkRen s s') hn (Nat.zero_le _) (fun _ _ => Nat.zero_le _) he hr
theorem Ent.autoK (k : Nat) {s s' : S} (hn : s'.n = s.n) (hk : k ≤ s'.next) (he : envOk (pm (fromL k (mkRen s s'))) s s'.next s'.env) (hr : subOk (pm (fromL k (mkRen s s'))) s.rows s'.next s'.rows) : Ent w0 T0 k s s' :=
 Ent.of _ hn hk (fromL_ge k _) he hr
def retV (s : S) : ResultVar → AV
 | .tmp t => s.ev (.tmp t)
 | .cell t _ => match s.get t with
  | .ptr i off => match lk s.rows i with
   | some (.box _ cs) => .agg (cs.drop off)
   | _ => .dead
  | _ => .dead
def mkRet (s : S) (res : List ResultVar) (out : AV) (rows : List (Nat × Item)) : List (Nat × Nat) :=
 mkV out (tupOf (res.map (retV s))) ++ mkRows (mkV out (tupOf (res.map (retV s)))) s.rows rows
theorem Ret.auto {P : Program} (N : Nat) {res : List ResultVar} {out : AV} {rows : List (Nat × Item)} {s : S} (h : rets P s res (fun vs => tupOf vs = ren (pm (mkRet s res out rows)) out)) (hb : Fv.below N out = true) (hr : subOk (pm (mkRet s res out rows)) s.rows N rows) : Ret P w0 T0 res out rows s :=
 Ret.of _ N h hb hr
end
end Go.Fv
/-
 The set by which a walk is reckoned.
-/
namespace Go.Fv
set_option linter.unusedSectionVars false
theorem band_dec (p q : Prop) [Decidable p] [Decidable q] : (decide p && decide q) = decide (p ∧ q) := by simp
theorem bor_dec (p q : Prop) [Decidable p] [Decidable q] : (decide p || decide q) = decide (p ∨ q) := by simp
theorem bnot_dec (p : Prop) [Decidable p] : (!decide p) = decide (¬ p) := by simp
attribute [go_sem] not_true_eq_false or_true true_or false_or or_false and_false false_and or_self and_self Array.toList_replicate List.map_replicate List.mem_replicate not_false_eq_true ne_eq Value.oneCell' maxLen_eq Nat.zero_le band_dec bor_dec bnot_dec AV.int.injEq AV.bool.injEq vcCode thenS blockS knowB vcOps vcGo vcOp vcMove vcPick vcExtract vcMakeFunc vcBox vcAlloc vcLoad vcNil vcFieldAddr vcIndexAddr vcStore vcMake vcPut vcCallOp vcLen vcAppend vcBin vcBinN isNilI vcBinX vcPtrN ptrN ifN kds kd eqB eq1 vcUn vcConv vcIndex vcField vcMM minmax vcSlice viewSlot intsOfU intsOfU_map vcSlData vcCapN vcUStr vcAppendN vcBuildSlice intsOf vcBuild vcTree S.ev S.get S.set S.add S.swap S.after shRows lk put del evs opndOk strConstsOk ofV inKB ren renL frz frzL addElem addElems subRow knowInt ldCells aggB bnd bndOk zrow elemA setElem spl appRow rowOfAV boxable S.upd idxFrom bparts placeOf bytesOf noId noIdL below belowL RowV.len RowV.sz Item.ren csz_int csz_bool csz_str csz_slice csz_ptr csz_agg List.length_append List.length_set List.length_replicate List.length_nil List.mem_cons List.not_mem_nil or_false forall_eq forall_eq_or_imp implies_true false_implies eq_self List.set_cons_zero List.set_cons_succ List.drop_zero List.drop_succ_cons List.take_succ_cons List.take_zero List.size_toArray List.length_cons List.map_cons List.map_nil List.replicate_zero List.nil_append List.cons_append List.append_nil List.reverse_nil List.zipIdx_cons List.zipIdx_nil Array.toList_empty List.getElem?_cons_zero List.getElem?_cons_succ List.getElem?_toArray Option.bind_some Option.map_some Option.getD_some Nat.one_mul decide_true decide_false Bool.and_self Bool.true_and Bool.false_and Bool.and_true Bool.and_false Bool.not_true Bool.not_false cond_true cond_false Ite_true Ite_false and_true true_and and_self Chk_true Bool.not_eq_true' Nat.zero_add Nat.add_zero Int.toNat_natCast Int.ofNat_eq_natCast pkC pkV peelE peelC peel gOps gBin gLen gHead gCell gVal gPick pickOk vcWhen LetW_eq Chk_r Asm_r Bool.and_eq_true decide_eq_true_eq Bool.cond_true_left Bool.cond_false_right imp_self Bool.not_eq_true decide_eq_false_iff_not Decidable.not_not Bool.not_not InK_i64 InK_u8 Int.natCast_zero
end Go.Fv
/-
 Calls whose results are only read by the caller: they stand as data, and the caller's state stays as it is.
-/
namespace Go.Fv
set_option linter.unusedSectionVars false
open Go.RowKit
set_option linter.unusedVariables false
set_option linter.unusedSimpArgs false
set_option linter.unnecessarySimpa false
def outOk (rows : List (Nat × Item)) (x y : AV) : Prop := match x with
 | .tup l => ∃ l', argOkL rows l l' ∧ y = .tup l'
 | x => argOk rows x y
section
variable {P : Program} {w0 : World} {T0 : Bs}
theorem OutOk.ro {T : Nat → Prop} {B : Nat} {w : World} {out out' : AV} {rows : List (Nat × Item)} {v : Value} (h : OutOk T B w out rows v) (ho : outOk rows out out') : OutOk T B w out' [] v := by
 obtain ⟨m, N, hr, hrows, hsep⟩ := h
 have hblk : ∀ i it, lk rows i = some it → ∀ b, blk (m i) = some b → B ≤ b := fun i it hi b hb => ((hrows i it hi).2.blk b hb).1
 have hl : Lend w (⟨w, allow (bs T) B m rows, m, N⟩ : Ctx) rows (allow (bs T) B (fun _ => undef) []) :=
  {hw := rfl, t := fun b hb => ⟨hb.1, fun i it hi => by simp [lk] at hi⟩,
   own := fun i e r hi => by
    obtain ⟨n, cells, hc, hn, hq, _⟩ := (hrows i _ hi).2
    exact ⟨fun b hb => ⟨.inl (hblk i _ hi b hb), fun i it hi => by simp [lk] at hi⟩, n, cells, hc, hn, hq⟩,
   box := fun i e cs hi => by
    obtain ⟨g, vs, hv, hg, hl, hh⟩ := (hrows i _ hi).2
    exact ⟨g, vs, hv, ⟨.inl hg, fun i it hi => by simp [lk] at hi⟩, hl, hh⟩,
   map := fun i ks vs hi => by
    obtain ⟨g, es, clock, hv, hg, h1, h2, h3, h4, hh⟩ := (hrows i _ hi).2
    exact ⟨g, es, clock, hv, ⟨.inl hg, fun i it hi => by simp [lk] at hi⟩, h1, h2, h3, h4, hh⟩ }
 refine ⟨fun _ => undef, 0, ?_, fun i it hi => by simp [lk] at hi, fun i j it jt b hi => by simp [lk] at hi⟩
 unfold outOk at ho
 split at ho
 ·obtain ⟨l', ha, rfl⟩ := ho
  cases hr with
  | tup _ vs hv => exact .tup _ _ (argOkT_rv hl _ ha hv)
 ·exact argOkN_rv hl 6 _ ho hr
theorem OutOk.noid {T : Nat → Prop} {B : Nat} {w : World} {out : AV} {v : Value} (h : OutOk T B w out [] v) : OutOk T B w out [] v := h
theorem VcCall.ro [hG : GlB P w0 T0] {f : Nat} {args args' : List AV} {out : AV} (out' : AV) {rows : List (Nat × Item)} {s : S} {K : AV → S → Prop} (h : FnFr P f args' out rows) (ha : argOkL s.rows args args') (ho : outOk rows out out') (hn : noId out' = true)
  (hk : K out' s) : @VcCall P w0 T0 f args s ⟨K⟩ := by
 have h' : FnFr P f args' out' [] := ⟨h.1, fun w T vals hgl hv => (h.2 w T vals hgl hv).mono fun e w' ⟨v, he, hb, hq⟩ => ⟨v, he, hb, hq.ro ho⟩⟩
 refine VcCall.fr h' ha 0 (noId_below 0 _ hn) trivial ?_
 rw [noId_ren _ _ hn]
 exact hk
theorem FnOk.ro {f : Nat} {args : List AV} {out out' : AV} {rows : List (Nat × Item)} (h : FnOk P f args out rows) (ho : outOk rows out out') : FnOk P f args out' [] :=
 ⟨h.1, fun w T vals hgl hv => (h.2 w T vals hgl hv).mono fun e w' ⟨v, he, hb, hq⟩ => ⟨v, he, hb, hq.ro ho⟩⟩
theorem VcCall.ros [hG : GlB P w0 T0] {f : Nat} {args args' : List AV} {out : AV} (out' : AV) {rows : List (Nat × Item)} {s : S} {K : AV → S → Prop} (h : FnOk P f args' out rows) (ha : argOkL [] args args') (ho : outOk rows out out') (hn : noId out' = true)
  (hk : K out' s) : @VcCall P w0 T0 f args s ⟨K⟩ := by
 refine VcCall.sh s.rows (h.ro ho) [] ha (fun _ _ h => h) (fun i it hi => by simp [lk] at hi) 0 (noId_below 0 _ hn) trivial ?_
 rw [noId_ren _ _ hn]
 exact hk
theorem VcCall.shr [hG : GlB P w0 T0] {f : Nat} {args args' : List AV} {out : AV} {rows : List (Nat × Item)} {s : S} {K : AV → S → Prop} (h : FnOk P f args' out rows) (ha : argOkL [] args args') (N : Nat) (hN : Fv.below N out = true) (hNr : rowsB N rows)
  (hk : K (ren (fun j => s.next + j) out) (s.after s.rows N rows)) : @VcCall P w0 T0 f args s ⟨K⟩ :=
 VcCall.sh s.rows h [] ha (fun _ _ h => h) (fun i it hi => by simp [lk] at hi) N hN hNr hk
end
end Go.Fv
/-
 A nil slice in a box, as an owned row without elements.
-/
namespace Go.Fv
set_option linter.unusedSectionVars false
open Go.RowKit
set_option linter.unusedVariables false
set_option linter.unusedSimpArgs false
set_option linter.unnecessarySimpa false
section
variable {P : Program} {w0 : World} {T0 : Bs} {b0 : Nat}
theorem RvL.setNil {c : Ctx} {x : AV} (hx : Rv c x (.slice none 0 0)) : ∀ {cs : List AV} {vs : List Value} {j : Nat}, RvL c cs vs → cs[j]? = some .nilS → RvL c (cs.set j x) vs
 | _, _, j, .nil, h => by simp at h
 | _, _, 0, .cons y v l vs hy h1 ht, h => by
  simp at h; subst h
  cases hy
  exact .cons _ _ _ _ hx h1 ht
 | _, _, j + 1, .cons y v l vs hy h1 ht, h => by
  simp at h
  exact .cons _ _ _ _ hy h1 (ht.setNil hx h)
theorem Ent.nilBox {s : S} (i : Nat) {t : TypeId} {cs : List AV} (j : Nat) (e : TypeId) {z : Value} (hz : ElemZ P e z) (hi : lk s.rows i = some (.box t cs)) (hj : cs[j]? = some .nilS) :
  Ent w0 T0 b0 s { s with rows := put ((s.next, .row e (zrow z 0)) :: s.rows) i (.box t (cs.set j (.own s.next))), next := s.next + 1 } := by
 rintro H a w hH ⟨m, hm⟩
 have hlt := (hm.rows i _ hi).1
 have h1 := new_nil hm hz
 have hi' : lk (s.add (.row e (zrow z 0))).rows i = some (.box t cs) := by
  simp only [S.add, lk]
  rw [if_neg (by omega)]; exact hi
 have h0 := (h1.rows i _ hi').2
 have h2 := h1.upd h1.below hi' (fun _ _ _ => rfl) (.box t (cs.set j (.own s.next))) (fun c hle hw hmm hN => ?_)
 ·exact ⟨_, h2.unhold⟩
 ·obtain ⟨g, vs, hv, hg, hl, hh⟩ := h0
  refine ⟨g, vs, hv, hg, ?_, by rw [hw]; exact hh⟩
  exact (hl.mono hle).setNil ((h1.held _ (.head _)).mono hle) hj
end
end Go.Fv
/-
 What a function value has captured, where nothing of it is the caller's own memory.
-/
namespace Go.Fv
set_option linter.unusedSectionVars false
open Go.RowKit
set_option linter.unusedVariables false
def lendB : Nat → AV → Bool
 | 0, _ => false
 | n + 1, x => match x with
  | .agg cs => cs.all (lendB n)
  | .fn _ cs => cs.all (lendB n)
  | .ro _ => true
  | .bool _ => true
  | .int _ _ => true
  | .str _ => true
  | .raw _ => true
  | .cell _ => true
  | .nilS => true
  | .mp _ _ => true
  | _ => false
theorem noIdL_all : ∀ {l : List AV}, (∀ x, x ∈ l → noId x = true) → noIdL l = true
 | [], _ => rfl
 | x :: l, h => by simp only [noIdL, Bool.and_eq_true]; exact ⟨h x (.head _), noIdL_all fun y hy => h y (.tail _ hy)⟩
theorem lendB_noId : ∀ (n : Nat) (x : AV), lendB n x = true → noId x = true
 | 0, x, h => by simp [lendB] at h
 | n + 1, x, h => by
  cases x <;> simp only [lendB] at h <;> first | rfl | (cases h; done) | skip
  ·simp only [noId]; exact noIdL_all fun y hy => lendB_noId n y (List.all_eq_true.1 h y hy)
  ·simp only [noId]; exact noIdL_all fun y hy => lendB_noId n y (List.all_eq_true.1 h y hy)
theorem allOk_same {R : AV → AV → Prop} : ∀ {l : List AV}, (∀ x, x ∈ l → R x x) → allOk R l l
 | [], _ => rfl
 | x :: l, h => ⟨x, l, h x (.head _), allOk_same fun y hy => h y (.tail _ hy), rfl⟩
theorem lendB_ok (rows : List (Nat × Item)) : ∀ (n : Nat) (x : AV), lendB n x = true → argOkN rows n x x
 | 0, x, h => by simp [lendB] at h
 | n + 1, x, h => by
  cases x <;> simp only [lendB] at h <;> first | (cases h; done) | skip
  all_goals first | (simp only [argOkN]; done) | (simp only [argOkN]; exact .inl trivial) | (simp only [argOkN]; exact ⟨_, allOk_same fun y hy => lendB_ok rows n y (List.all_eq_true.1 h y hy), rfl⟩) | skip
class CapsOk (caps : List AV) : Prop where
 ok : caps.all (lendB 5) = true
section
variable {caps : List AV} [h : CapsOk caps]
theorem caps_noId : noIdL caps = true := noIdL_all fun x hx => lendB_noId 5 x (List.all_eq_true.1 h.ok x hx)
theorem lendB_up : ∀ (n : Nat) (x : AV), lendB n x = true → lendB (n + 1) x = true
 | 0, x, h => by simp [lendB] at h
 | n + 1, x, h => by
  cases x <;> simp only [lendB] at h ⊢ <;> first | (cases h; done) | rfl | skip
  ·exact List.all_eq_true.2 fun y hy => lendB_up n y (List.all_eq_true.1 h y hy)
  ·exact List.all_eq_true.2 fun y hy => lendB_up n y (List.all_eq_true.1 h y hy)
theorem renL_caps (p : Nat → Nat) : renL p caps = caps := noIdL_ren p caps caps_noId
theorem belowL_caps (n : Nat) : belowL n caps = true := noIdL_below n caps caps_noId
theorem allOk_caps (rows : List (Nat × Item)) : allOk (argOkN rows 6) caps caps := allOk_same fun x hx => lendB_ok rows 6 x (lendB_up 5 x (List.all_eq_true.1 h.ok x hx))
end
mutual
theorem mkV_noId : ∀ (x y : AV), noId x = true → mkV x y = []
 | .own _, _, h => by simp [noId] at h
 | .ptr _ _, _, h => by simp [noId] at h
 | .elt _ _ _ _, _, h => by simp [noId] at h
 | .pre _ _, _, h => by simp [noId] at h
 | .agg l, y, h => by simp only [mkV]; split <;> first | exact mkL_noId l _ (by simpa [noId] using h) | rfl
 | .tup l, y, h => by simp only [mkV]; split <;> first | exact mkL_noId l _ (by simpa [noId] using h) | rfl
 | .fn _ l, y, h => by simp only [mkV]; split <;> first | exact mkL_noId l _ (by simpa [noId] using h) | rfl
 | .dead, _, _ => rfl
 | .nilS, _, _ => rfl
 | .bool _, _, _ => rfl
 | .int _ _, _, _ => rfl
 | .str _, _, _ => rfl
 | .ro _, _, _ => rfl
 | .cell _, _, _ => rfl
 | .raw _, _, _ => rfl
 | .mp _ _, _, _ => rfl
 | .opt _ x, y, h => by simp only [mkV]; split <;> first | exact mkV_noId x _ (by simpa [noId] using h) | rfl
theorem mkL_noId : ∀ (x y : List AV), noIdL x = true → mkL x y = []
 | [], _, _ => rfl
 | x :: l, y, h => by
  simp only [noIdL, Bool.and_eq_true] at h
  simp only [mkL]; split
  ·rw [mkV_noId x _ h.1, mkL_noId l _ h.2]; rfl
  ·rfl
end
theorem mkLL_noId : ∀ (x y : List (List AV)), x.all noIdL = true → mkLL x y = []
 | [], _, _ => rfl
 | x :: l, y, h => by
  simp only [List.all_cons, Bool.and_eq_true] at h
  simp only [mkLL]; split
  ·rw [mkL_noId x _ h.1, mkLL_noId l _ h.2]; rfl
  ·rfl
theorem mkR_ok (r r' : RowV) [h : RowNoId r] : mkR r r' = [] := by
 have := h.ok
 cases r <;> cases r' <;> first | rfl | exact mkLL_noId _ _ this
theorem mkL_caps {caps : List AV} [h : CapsOk caps] (y : List AV) : mkL caps y = [] := mkL_noId caps y caps_noId
end Go.Fv
/-
 The walk of drawn regions, in the set.
-/
namespace Go.Fv
set_option linter.unusedSectionVars false
attribute [go_sem] vcConvX appTy vcLookup lookK vcMakeMap vcMapUpd vcMapEnt entK vcEntStore vcRange vcNext vcEntry List.getLast?_concat mapOf gLook KeysT_nil gMM Bool.false_eq_true true_implies LetW_q vcLex gGo_some bGo_true bGo_false eGo_mk qGo_val qGo_lin qGo_call lxPut lxEnv dstOk putS qCond qRes rOps peelV onlyE onlyP gd qVc redo1 redo accPut ksOf peelC esMem isLin Option.toList_some Option.toList_none renL_caps belowL_caps
end Go.Fv
/-
 Maps whose keys and values are told by lists of plain data.
-/
namespace Go.Fv
set_option linter.unusedSectionVars false
set_option linter.unusedVariables false
end Go.Fv
/-
 Small facts about lists.
-/
namespace Go.Fv
set_option linter.unusedSectionVars false
theorem getD_lt {α : Type} {l : List α} {i : Nat} {d : α} (h : i < l.length) : l.getD i d = l[i] := by simp [List.getD, h]
theorem take_eq_iff {α : Type} [DecidableEq α] {a b : List α} (d : α) (h : a.length = b.length) : ∀ {i : Nat}, i ≤ a.length → ((∀ j, j < i → a.getD j d = b.getD j d) ↔ a.take i = b.take i)
 | 0, _ => by simp
 | i + 1, hi => by
  have ih := take_eq_iff d h (i := i) (by omega)
  rw [List.take_succ_eq_append_getElem (by omega), List.take_succ_eq_append_getElem (by omega)]
  constructor
  ·intro hh
   have h1 := ih.1 fun j hj => hh j (by omega)
   have h2 := hh i (by omega)
   rw [getD_lt (by omega), getD_lt (by omega)] at h2
   rw [h1, h2]
  ·intro hh j hj
   have := List.append_inj hh (by simp; omega)
   by_cases e : j = i
   ·subst e
    rw [getD_lt (by omega), getD_lt (by omega)]
    simpa using this.2
   ·exact ih.2 this.1 j (by omega)
theorem eq_of_getD {α : Type} [DecidableEq α] {a b : List α} (d : α) (h : a.length = b.length) (hh : ∀ j, j < a.length → a.getD j d = b.getD j d) : a = b := by
 have := (take_eq_iff d h (Nat.le_refl _)).1 hh
 rwa [List.take_length, h, List.take_length] at this
theorem getD_bd {l : List Int} {A B : Int} (h : ∀ x, x ∈ l → A ≤ x ∧ x ≤ B) (hA : A ≤ 0) (hB : 0 ≤ B) (j : Nat) : A ≤ l.getD j 0 ∧ l.getD j 0 ≤ B := by
 rw [List.getD_eq_getElem?_getD]
 cases hq : l[j]? with
 | none => exact ⟨hA, hB⟩
 | some y => exact h y (List.mem_of_getElem? hq)
theorem renL_bools (p : Nat → Nat) : ∀ l : List Bool, renL p (l.map .bool) = l.map .bool
 | [] => rfl
 | b :: l => by simp only [List.map_cons, renL, ren]; rw [renL_bools p l]
theorem renL_ints (p : Nat → Nat) (k : IntKind) : ∀ l : List Int, renL p (l.map (.int k)) = l.map (.int k)
 | [] => rfl
 | b :: l => by simp only [List.map_cons, renL, ren]; rw [renL_ints p k l]
theorem belowL_bools (n : Nat) : ∀ l : List Bool, belowL n (l.map .bool) = true
 | [] => rfl
 | b :: l => by simp only [List.map_cons, belowL, below, Bool.true_and]; exact belowL_bools n l
theorem belowL_ints (n : Nat) (k : IntKind) : ∀ l : List Int, belowL n (l.map (.int k)) = true
 | [] => rfl
 | b :: l => by simp only [List.map_cons, belowL, below, Bool.true_and]; exact belowL_ints n k l
theorem mkL_bools : ∀ (l : List Bool) (y : List AV), mkL (l.map .bool) y = []
 | [], _ => by simp [mkL]
 | b :: l, y => by
  simp only [List.map_cons, mkL]
  split
  ·simp only [mkV, List.nil_append]; exact mkL_bools l _
  ·rfl
theorem mkL_ints (k : IntKind) : ∀ (l : List Int) (y : List AV), mkL (l.map (.int k)) y = []
 | [], _ => by simp [mkL]
 | b :: l, y => by
  simp only [List.map_cons, mkL]
  split
  ·simp only [mkV, List.nil_append]; exact mkL_ints k l _
  ·rfl
theorem allOk_bools (rows : List (Nat × Item)) (n : Nat) : ∀ l : List Bool, allOk (argOkN rows (n + 1)) (l.map .bool) (l.map .bool)
 | [] => rfl
 | b :: l => ⟨.bool b, l.map .bool, by simp [argOkN], allOk_bools rows n l, rfl⟩
theorem set_bools (l : List Bool) (i : Nat) (b : Bool) : (l.map AV.bool).set i (.bool b) = (l.set i b).map .bool := by rw [List.map_set]
theorem set_ints (l : List Int) (k : IntKind) (i : Nat) (b : Int) : (l.map (AV.int k)).set i (.int k b) = (l.set i b).map (.int k) := by rw [List.map_set]
theorem noRoL_bools : ∀ l : List Bool, noRoL (l.map .bool) = true
 | [] => rfl
 | b :: l => by simp only [List.map_cons, noRoL, noRo, Bool.true_and]; exact noRoL_bools l
theorem spl_eq : ∀ (cs bs : List AV) (off : Nat), off + cs.length ≤ bs.length → spl bs off cs = bs.take off ++ cs ++ bs.drop (off + cs.length)
 | [], bs, off, _ => by simp [spl]
 | c :: cs, bs, off, h => by
  simp only [List.length_cons] at h
  rw [spl, spl_eq cs _ _ (by simp; omega), List.take_set, List.drop_set, if_pos (by omega)]
  rw [List.take_succ_eq_append_getElem (by omega), List.set_append_right _ _ (by simp; omega)]
  have e : off - (List.take off bs).length = 0 := by simp; omega
  rw [e]
  simp only [List.set_cons_zero, List.length_cons, List.append_assoc, List.cons_append, List.nil_append]
  have e2 : off + 1 + cs.length = off + (cs.length + 1) := by omega
  rw [e2]
theorem spl_all {bs cs : List AV} (h : cs.length = bs.length) : spl bs 0 cs = cs := by
 rw [spl_eq _ _ _ (by omega)]; simp [h]
attribute [simp] noIdR_ok renR_ok belowR_ok mkR_ok
attribute [go_sem] frzS noIdR_ok renR_ok belowR_ok renL_bools renL_ints belowL_bools belowL_ints List.length_map Nat.mul_one set_bools set_ints
theorem up_add (a b : Nat) : (a : Int) + (b : Int) = ((a + b : Nat) : Int) := rfl
theorem up_mul (a b : Nat) : (a : Int) * (b : Int) = ((a * b : Nat) : Int) := (Int.natCast_mul a b).symm
theorem up_tmod (a b : Nat) : (a : Int).tmod (b : Int) = ((a % b : Nat) : Int) := (Int.ofNat_tmod a b).symm
end Go.Fv
/-
 Families of rows: as many owned rows as a list tells, with names one behind the other.
-/
namespace Go.Fv
set_option linter.unusedSectionVars false
set_option linter.unusedVariables false
set_option linter.unusedSimpArgs false
section
variable {w0 : World} {T0 : Bs} {b0 : Nat}
theorem Ent.ofF (p : Nat → Nat) {s s' : S} (hn : s'.n = s.n) (hb : b0 ≤ s'.next) (hlow : ∀ i, i < b0 → p i = i) (he : envOk p s s'.next s'.env)
  (hr : ∀ i it, lk s'.rows i = some it → i < s'.next ∧ lk s.rows (p i) = some (it.ren p) ∧ it.below s'.next = true)
  (hinj : ∀ i j it jt, lk s'.rows i = some it → lk s'.rows j = some jt → p i = p j → i = j) : Ent w0 T0 b0 s s' := by
 rintro H a w hH ⟨m, hm⟩
 have hren : CtxRen p (ctxOf T0 w0.heap.size m s w) (ctxOf T0 w0.heap.size (fun i => m (p i)) s' w) :=
  {m := fun _ _ => rfl,
   t := by
    intro b ⟨h1, h2⟩ _
    refine ⟨⟨h1, fun i it hi e => ?_⟩, rfl⟩
    obtain ⟨_, h3, _⟩ := hr i it hi
    exact h2 _ _ h3 e }
 refine ⟨fun i => m (p i), { size := by rw [hn]; exact hm.size, nodef := hm.nodef, below := hm.below, env := ?_, held := ?_, rows := ?_, sep := ?_ }⟩
 ·intro r v hv
  obtain ⟨h1, h2⟩ := envOk_mem he r v (lk_mem hv)
  refine Rv.ren hren v h2 ?_
  have : Rv (ctxOf T0 w0.heap.size m s w) (s.get r) (a.tmps.getD r undef) := by
   simp only [S.get]
   cases hq : lk s.env r with
   | none => exact .dead _
   | some y => exact hm.env r y hq
  rw [← h1]; exact this
 ·intro q hq
  have h1 := hH q hq
  refine Rv.ren hren q.1 (below_le hb _ h1) ?_
  rw [ren_low hlow _ h1]; exact hm.held q hq
 ·intro i it hi
  obtain ⟨h1, h2, h3⟩ := hr i it hi
  exact ⟨h1, ItemOk.ren hren rfl h3 (hm.rows _ _ h2).2⟩
 ·intro i j it jt b hi hj hbi hbj
  obtain ⟨_, h2, _⟩ := hr i it hi
  obtain ⟨_, h2', _⟩ := hr j jt hj
  exact hinj i j it jt hi hj (hm.sep _ _ _ _ b h2 h2' hbi hbj)
end
/-! ### Renamings by hand -/
def p1 (a K x : Nat) : Nat := if x = a then K else x
def p2 (a K a' K' x : Nat) : Nat := if x = a then K else if x = a' then K' else x
end Go.Fv
/-
 An owned row becomes data, wherever the state speaks of it.
-/
namespace Go.Fv
set_option linter.unusedSectionVars false
open Go.RowKit
set_option linter.unusedVariables false
set_option linter.unusedSimpArgs false
set_option linter.unnecessarySimpa false
mutual
def fz (k : Nat) (r : RowV) : AV → AV
 | .own i => if i = k then .ro r else .own i
 | .ptr i o => .ptr i o
 | .elt i a b c => .elt i a b c
 | .pre i n => .pre i n
 | .agg cs => .agg (fzL k r cs)
 | .tup cs => .tup (fzL k r cs)
 | .fn f cs => .fn f (fzL k r cs)
 | .cell cs => .cell cs
 | .dead => .dead
 | .nilS => .nilS
 | .bool b => .bool b
 | .int q n => .int q n
 | .str s => .str s
 | .ro r => .ro r
 | .raw v => .raw v
 | .opt b v => .opt b (fz k r v)
 | .mp ks vs => .mp ks vs
def fzL (k : Nat) (r : RowV) : List AV → List AV
 | [] => []
 | x :: l => fz k r x :: fzL k r l
end
def fzR (k : Nat) (q : RowV) : RowV → RowV
 | .objs sz l => .objs sz (l.map (fzL k q))
 | .bools l => .bools l
 | .ints k l => .ints k l
 | .strs l => .strs l
def fzI (k : Nat) (q : RowV) : Item → Item
 | .row e r => .row e (fzR k q r)
 | .box e cs => .box e (fzL k q cs)
 | .map ks vs => .map (fzL k q ks) (fzL k q vs)
 | .iter mp since seen => .iter mp since seen
 | .siter t pos => .siter t pos
def fzE (k : Nat) (q : RowV) : List (Nat × AV) → List (Nat × AV)
 | [] => []
 |(i, v) :: l => (i, fz k q v) :: fzE k q l
def fzRows (k : Nat) (q : RowV) : List (Nat × Item) → List (Nat × Item)
 | [] => []
 |(i, it) :: l => if i = k then fzRows k q l else (i, fzI k q it) :: fzRows k q l
def S.fz (s : S) (k : Nat) (r : RowV) : S := { s with env := fzE k r s.env, rows := fzRows k r s.rows }
theorem lk_fzE (k : Nat) (q : RowV) : ∀ (l : List (Nat × AV)) (i : Nat), lk (fzE k q l) i = (lk l i).map (fz k q)
 | [], i => rfl
 |(j, v) :: l, i => by
  simp only [fzE, lk]
  split
  ·rfl
  ·exact lk_fzE k q l i
theorem lk_fzRows (k : Nat) (q : RowV) : ∀ (l : List (Nat × Item)) (i : Nat), lk (fzRows k q l) i = if i = k then none else (lk l i).map (fzI k q)
 | [], i => by simp [fzRows, lk]
 |(j, v) :: l, i => by
  simp only [fzRows]
  split
  ·rename_i e; subst e
   rw [lk_fzRows]
   by_cases h : i = j
   ·simp [h]
   ·simp only [if_neg h, lk]; rw [if_neg (fun e => h e.symm)]
  ·rename_i e
   simp only [lk]
   split
   ·rename_i e2; subst e2; rw [if_neg e]; rfl
   ·exact lk_fzRows k q l i
mutual
theorem fz_below {k : Nat} {r : RowV} (n : Nat) : ∀ x : AV, below n x = true → below n (fz k r x) = true
 | .own i, h => by
  simp only [fz]; split
  ·rfl
  ·exact h
 | .ptr i o, h => h
 | .elt i a b c, h => h
 | .pre i n, h => h
 | .agg cs, h => by simp only [fz, below] at *; exact fzL_below n cs h
 | .tup cs, h => by simp only [fz, below] at *; exact fzL_below n cs h
 | .fn f cs, h => by simp only [fz, below] at *; exact fzL_below n cs h
 | .cell cs, _ => rfl
 | .dead, _ => rfl
 | .nilS, _ => rfl
 | .bool _, _ => rfl
 | .int _ _, _ => rfl
 | .str _, _ => rfl
 | .ro _, _ => rfl
 | .raw _, _ => rfl
 | .opt _ v, h => by simp only [fz, below] at *; exact fz_below n v h
 | .mp _ _, _ => rfl
theorem fzL_below {k : Nat} {r : RowV} (n : Nat) : ∀ x : List AV, belowL n x = true → belowL n (fzL k r x) = true
 | [], _ => rfl
 | x :: l, h => by
  simp only [belowL, Bool.and_eq_true] at h
  simp [fzL, belowL, fz_below n x h.1, fzL_below n l h.2]
end
mutual
theorem fz_low (k : Nat) (r : RowV) (b0 : Nat) (hb : b0 ≤ k) : ∀ x : AV, below b0 x = true → fz k r x = x
 | .own i, h => by
  simp only [below, decide_eq_true_eq] at h
  simp only [fz]; rw [if_neg (by omega)]
 | .ptr i o, h => rfl
 | .elt i a b c, h => rfl
 | .pre i n, h => rfl
 | .agg cs, h => by simp only [fz]; rw [fzL_low k r b0 hb cs (by simpa [below] using h)]
 | .tup cs, h => by simp only [fz]; rw [fzL_low k r b0 hb cs (by simpa [below] using h)]
 | .fn f cs, h => by simp only [fz]; rw [fzL_low k r b0 hb cs (by simpa [below] using h)]
 | .cell cs, _ => rfl
 | .dead, _ => rfl
 | .nilS, _ => rfl
 | .bool _, _ => rfl
 | .int _ _, _ => rfl
 | .str _, _ => rfl
 | .ro _, _ => rfl
 | .raw _, _ => rfl
 | .mp _ _, _ => rfl
 | .opt b v, h => by simp only [fz]; rw [fz_low k r b0 hb v (by simpa [below] using h)]
theorem fzL_low (k : Nat) (r : RowV) (b0 : Nat) (hb : b0 ≤ k) : ∀ x : List AV, belowL b0 x = true → fzL k r x = x
 | [], _ => rfl
 | x :: l, h => by
  simp only [belowL, Bool.and_eq_true] at h
  simp only [fzL]; rw [fz_low k r b0 hb x h.1, fzL_low k r b0 hb l h.2]
end
structure CtxFz (k : Nat) (r : RowV) (c c' : Ctx) : Prop where
 n : c'.N = c.N
 m : c'.m = c.m
 t : ∀ b, c.T b → b < c.w.heap.size → c'.T b ∧ c'.w.heap[b]? = c.w.heap[b]?
 ro : Rv c' (.ro r) (c.m k)
mutual
theorem Rv.fz {k : Nat} {r : RowV} {c c' : Ctx} (h : CtxFz k r c c') : ∀ {x : AV} {v : Value}, Rv c x v → Rv c' (Fv.fz k r x) v
 | _, _, .dead v => .dead v
 | _, _, .nilS => .nilS
 | _, _, .bool b => .bool b
 | _, _, .int q n hk => .int q n hk
 | _, _, .str s hs => .str s hs
 | _, _, .roNil r hr hi => .roNil r (RowC.noid h.t hr hi) hi
 | _, _, .ro r a len cap cells hr hl hc hm hs hi => .ro r a len cap cells (RowC.noid h.t hr hi) hl hc hm (hs.mono' h.t) hi
 | _, _, .mp ks vs g es clock hk hv hb hc hT hh hi hi2 => .mp ks vs g es clock (RvT.noid h.t hk hi) (RvT.noid h.t hv hi2) hb hc (h.t g hT (Array.getElem?_eq_some_iff.1 hh).1).1 (by rw [(h.t g hT (Array.getElem?_eq_some_iff.1 hh).1).2]; exact hh) hi hi2
 | _, _, .own i hi h1 => by
  simp only [Fv.fz]
  split
  ·rename_i e; subst e; exact h.ro
  ·rw [← h.m]; exact .own i (by rw [h.n]; exact hi) (by rw [h.m]; exact h1)
 | _, _, .cell cs vs a hl hi hs => .cell cs vs a (RvL.noid h.t hl hi) hi (hs.mono' h.t)
 | _, _, .ptr i off g hi hg => .ptr i off g (by rw [h.n]; exact hi) (by rw [h.m]; exact hg)
 | _, _, .elt i a b d g hi hg => .elt i a b d g (by rw [h.n]; exact hi) (by rw [h.m]; exact hg)
 | _, _, .pre i n l cap a hi hv hn => .pre i n l cap a (by rw [h.n]; exact hi) (by rw [h.m]; exact hv) hn
 | _, _, .agg cs vs hl => .agg _ vs (RvL.fz h hl)
 | _, _, .tup cs vs hl => .tup _ vs (RvT.fz h hl)
 | _, _, .fn f cs vs hl => .fn f _ vs (RvT.fz h hl)
 | _, _, .raw v => .raw v
 | _, _, .opt b x v hb hx h2 => .opt b _ v (by rw [h.n]; exact fz_below _ _ hb) (fun e => Rv.fz h (hx e)) h2
theorem RvL.fz {k : Nat} {r : RowV} {c c' : Ctx} (h : CtxFz k r c c') : ∀ {x : List AV} {v : List Value}, RvL c x v → RvL c' (fzL k r x) v
 | _, _, .nil => .nil
 | _, _, .cons x v l vs hx h1 ht => .cons _ v _ vs (Rv.fz h hx) h1 (RvL.fz h ht)
theorem RvT.fz {k : Nat} {r : RowV} {c c' : Ctx} (h : CtxFz k r c c') : ∀ {x : List AV} {v : List Value}, RvT c x v → RvT c' (fzL k r x) v
 | _, _, .nil => .nil
 | _, _, .cons x v l vs hx ht => .cons _ v _ vs (Rv.fz h hx) (RvT.fz h ht)
end
theorem ObjsC.fz {k : Nat} {r : RowV} {c c' : Ctx} (h : CtxFz k r c c') : ∀ {sz : Nat} {x : List (List AV)} {v : List Value}, ObjsC c sz x v → ObjsC c' sz (x.map (fzL k r)) v
 | _, _, _, .nil sz => .nil sz
 | _, _, _, .cons sz o vs l cells ho hl ht => .cons sz _ vs _ cells (ho.fz h) hl (ht.fz h)
theorem RowC.fz {k : Nat} {q : RowV} {c c' : Ctx} (h : CtxFz k q c c') {x : RowV} {v : List Value} (hr : RowC c x v) : RowC c' (fzR k q x) v := by
 cases hr with
 | bools l => exact .bools l
 | ints k l hk => exact .ints k l hk
 | strs l hs => exact .strs l hs
 | objs sz l cells hz ho => exact .objs sz _ _ hz (ho.fz h)
theorem fzR_len (k : Nat) (q r : RowV) : (fzR k q r).len = r.len := by cases r <;> simp [fzR, RowV.len]
theorem fzR_sz (k : Nat) (q r : RowV) : (fzR k q r).sz = r.sz := by cases r <;> rfl
theorem ItemOk.fz {k : Nat} {q : RowV} {c c' : Ctx} (h : CtxFz k q c c') (hw : c'.w = c.w) {O : Nat → Prop} {v : Value} {it : Item} (hi : ItemOk c O v it) : ItemOk c' O v (fzI k q it) := by
 cases it with
 | row e r =>
  obtain ⟨n, cells, hr, hn, ho, hO⟩ := hi
  exact ⟨n, cells, hr.fz h, by rw [fzR_len]; exact hn, by rw [fzR_sz, hw]; exact ho, hO⟩
 | box e cs => obtain ⟨g, vs, rfl, hg, hl, hh⟩ := hi; exact ⟨g, vs, rfl, hg, hl.fz h, by rw [hw]; exact hh⟩
 | map ks vs => obtain ⟨g, es, clock, rfl, hg, h1, h2, h3, h4, hh⟩ := hi; exact ⟨g, es, clock, rfl, hg, h1.fz h, h2.fz h, h3, h4, by rw [hw]; exact hh⟩
 | iter mp since seen => obtain ⟨g, p, sn, last, rfl, hg, h1, h2, h3, h4, hh⟩ := hi; exact ⟨g, p, sn, last, rfl, hg, by rw [h.n]; exact h1, by rw [h.m]; exact h2, h3, h4, by rw [hw]; exact hh⟩
 | siter t pos => obtain ⟨g, rfl, hg, hh⟩ := hi; exact ⟨g, rfl, hg, by rw [hw]; exact hh⟩
section
variable {w0 : World} {T0 : Bs} {b0 : Nat}
theorem Ent.fz (k : Nat) {s : S} {e : TypeId} {r : RowV} (hk : lk s.rows k = some (.row e r)) (hid : noIdR r = true) (hb : b0 ≤ k) : Ent w0 T0 b0 s (s.fz k r) := by
 rintro H a w hH ⟨m, hm⟩
 have hsub : ∀ i it, lk (s.fz k r).rows i = some it → i ≠ k ∧ ∃ jt, lk s.rows i = some jt ∧ it = fzI k r jt := by
  intro i it hi
  simp only [S.fz, lk_fzRows] at hi
  split at hi
  ·cases hi
  ·rename_i hne
   cases hq : lk s.rows i with
   | none => rw [hq] at hi; cases hi
   | some jt => rw [hq] at hi; cases hi; exact ⟨hne, jt, rfl, rfl⟩
 have hdel : ∀ i it, lk (del s.rows k) i = some it → lk s.rows i = some it := del_sub _ _
 have hro := own_ro hm hk hdel (by rw [lk_del, if_pos rfl]) hid
 have hT : ∀ b, allow T0 w0.heap.size m (del s.rows k) b → allow T0 w0.heap.size m (s.fz k r).rows b := by
  rintro b ⟨h1, h2⟩
  refine ⟨h1, fun i it hi e => ?_⟩
  obtain ⟨hne, jt, hj, _⟩ := hsub i it hi
  exact h2 i jt (by rw [lk_del, if_neg hne]; exact hj) e
 have hc : CtxFz k r (ctxOf T0 w0.heap.size m s w) (ctxOf T0 w0.heap.size m (s.fz k r) w) :=
  {n := rfl, m := rfl,
   t := by
    intro b ⟨h1, h2⟩ _
    exact ⟨hT b ⟨h1, fun i it hi => h2 i it (hdel i it hi)⟩, rfl⟩,
   ro := by
    refine Rv.noid (c := ctxOf T0 w0.heap.size m { s with rows := del s.rows k } w) ?_ hro rfl
    intro b hb _
    exact ⟨hT b hb, rfl⟩ }
 refine ⟨m, { size := hm.size, nodef := hm.nodef, below := hm.below, env := ?_, held := ?_, rows := ?_, sep := ?_ }⟩
 ·intro q v hv
  simp only [S.fz, lk_fzE] at hv
  cases hq : lk s.env q with
  | none => rw [hq] at hv; cases hv
  | some y => rw [hq] at hv; cases hv; exact (hm.env q y hq).fz hc
 ·intro p hp
  have h1 := (hm.held p hp).fz hc
  have h2 : Fv.fz k r p.1 = p.1 := by
   have hlow := hH p hp
   exact fz_low k r b0 hb p.1 hlow
  rwa [h2] at h1
 ·intro i it hi
  obtain ⟨hne, jt, hj, rfl⟩ := hsub i it hi
  exact ⟨(hm.rows i jt hj).1, (hm.rows i jt hj).2.fz hc rfl⟩
 ·intro i j it jt b hi hj hbi hbj
  obtain ⟨_, it', hi', _⟩ := hsub i it hi
  obtain ⟨_, jt', hj', _⟩ := hsub j jt hj
  exact hm.sep i j it' jt' b hi' hj' hbi hbj
end
attribute [go_sem] fz fzL fzR fzI fzE fzRows S.fz
end Go.Fv
/-
 The set by which states are held against one another.
-/
namespace Go.Fv
set_option linter.unusedSectionVars false
theorem renL_rep (p : Nat → Nat) (x : AV) : ∀ n : Nat, renL p (List.replicate n x) = List.replicate n (ren p x)
 | 0 => rfl
 | n + 1 => by simp only [List.replicate_succ, renL]; rw [renL_rep p x n]
theorem belowL_rep {N : Nat} {x : AV} (h : below N x = true) : ∀ n : Nat, belowL N (List.replicate n x) = true
 | 0 => rfl
 | n + 1 => by simp only [List.replicate_succ, belowL, h, Bool.true_and]; exact belowL_rep h n
theorem noIdL_rep {x : AV} (h : noId x = true) : ∀ n : Nat, noIdL (List.replicate n x) = true
 | 0 => rfl
 | n + 1 => by simp only [List.replicate_succ, noIdL, h, Bool.true_and]; exact noIdL_rep h n
theorem mkL_rep {x : AV} (h : noId x = true) (n : Nat) (y : List AV) : mkL (List.replicate n x) y = [] := mkL_noId _ y (noIdL_rep h n)
theorem belowL_repb (N n : Nat) (b : Bool) : belowL N (List.replicate n (AV.bool b)) = true := belowL_rep rfl n
theorem belowL_repi (N n : Nat) (k : IntKind) (i : Int) : belowL N (List.replicate n (AV.int k i)) = true := belowL_rep rfl n
theorem mkL_repb (n : Nat) (b : Bool) (y : List AV) : mkL (List.replicate n (AV.bool b)) y = [] := mkL_rep rfl n y
theorem mkL_repi (n : Nat) (k : IntKind) (i : Int) (y : List AV) : mkL (List.replicate n (AV.int k i)) y = [] := mkL_rep rfl n y
attribute [go_sem] mkR_ok mkL_caps mkL_bools mkL_ints rets rets1 retV mkRet tupOf envOk subOk mkRen mkEnv mkRows mkItem mkV mkL pm Item.below AV.own.injEq AV.str.injEq AV.ro.injEq AV.agg.injEq AV.tup.injEq List.cons.injEq Option.some.injEq Item.row.injEq Item.box.injEq RowV.ints.injEq RowV.bools.injEq RowV.strs.injEq RowV.objs.injEq Nat.succ_ne_self renL_rep belowL_repb belowL_repi mkL_repb mkL_repi
attribute [go_sem] accKeep redoT redoH
end Go.Fv
/-
 Calls into the callee's code: what it writes into memory that the caller owns is seen by the caller.
-/
namespace Go.Fv
set_option linter.unusedSectionVars false
open Go.RowKit
set_option linter.unusedVariables false
set_option linter.unusedSimpArgs false
set_option linter.unnecessarySimpa false
def InlPost (P : Program) (res : List ResultVar) (s : S) (K : AV → S → Prop) : Exit → S → Prop
 | .normal, s1 => rets P s1 res (fun vs => K (tupOf vs) { s with rows := s1.rows, next := s1.next })
 | .ret, s1 => rets P s1 res (fun vs => K (tupOf vs) { s with rows := s1.rows, next := s1.next })
 | _, _ => False
section
variable {P : Program} {w0 : World} {T0 : Bs}
theorem VcCall.inl {f : Nat} {fn : Func} {c : Code} {args : List AV} {s : S} {K : AV → S → Prop} (hf : P.funcs[f]? = some fn) (hb : fn.body = some c)
  (hnm : (fn.name == "runtime.NumGoroutine") = false) (hn : args.length ≤ fn.ntmps) (res : List ResultVar) (hres : fn.results = res.toArray)
  (h : VcRun P w0 T0 s.next c ⟨fn.ntmps, argEnv 0 args, s.rows, s.next⟩ (InlPost P res s K)) : @VcCall P w0 T0 f args s ⟨K⟩ := by
 refine ⟨⟨fn, hf, by rw [hb]; rfl, hnm⟩, fun H a w m vals hm hv => ?_⟩
 refine calls_of_wp hf hb ?_
 have hlen := hv.length
 have hE : ∀ p, p ∈ (s.env.map fun p => (s.get p.1, a.tmps.getD p.1 undef)) ++ H → Rv (ctxOf T0 w0.heap.size m s w) p.1 p.2 := by
  intro p hp
  rcases List.mem_append.1 hp with hp | hp
  ·obtain ⟨q, _, rfl⟩ := List.mem_map.1 hp
   show Rv _ (s.get q.1) _
   unfold S.get
   cases hl : lk s.env q.1 with
   | none => exact .dead _
   | some y => exact hm.env q.1 y hl
  ·exact hm.held p hp
 have hrep : RepM w0 T0 ((s.env.map fun p => (s.get p.1, a.tmps.getD p.1 undef)) ++ H) ⟨fn.ntmps, argEnv 0 args, s.rows, s.next⟩ { tmps := vals.toArray ++ Array.replicate (fn.ntmps - vals.toArray.size) undef, defers := [] } w m :=
  {size := by simp; omega, nodef := rfl, below := hm.below,
   env := by
    intro r v hr
    obtain ⟨u, h1, h2⟩ := argEnv_rv 0 [] rfl hv r v hr
    have e : ((vals.toArray ++ Array.replicate (fn.ntmps - vals.toArray.size) undef).getD r undef) = u := by
     have h1' : vals[r]? = some u := by simpa using h1
     have hlt : r < vals.length := (List.getElem?_eq_some_iff.1 h1').1
     rw [Array.getD_eq_getD_getElem?, Array.getElem?_append_left (by simpa using hlt)]
     simp [h1']
    rw [e]; exact h2,
   held := hE, rows := hm.rows, sep := hm.sep }
 refine wp_mono (h _ _ w (fun p hp => (hE p hp).ids) ⟨m, hrep⟩) ?_
 rintro e a1 w1 ⟨s1, hq, m1, hm1⟩
 have fin : rets P s1 res (fun vs => K (tupOf vs) { s with rows := s1.rows, next := s1.next }) → a1.defers = [] ∧ ∃ v, (results fn a1.tmps).run P w1 = .ok v w1 ∧ ∃ v', Ending.returned v = .returned v' ∧ ∃ r s', K r s' ∧ Rep w0 T0 ((r, v') :: H) s' a w1 := by
  intro hk
  obtain ⟨l, vs, hk, hr, hvs⟩ := rets_run hm1 hk
  have hrv : Rv (ctxOf T0 w0.heap.size m1 s1 w1) (tupOf l) (tupV vs) := by
   cases hvs with
   | nil => exact .tup _ _ .nil
   | cons x v l us hx ht =>
    cases ht with
    | nil => exact hx
    | cons x' v' l' us' hx' ht' => exact .tup _ _ (.cons _ _ _ _ hx (.cons _ _ _ _ hx' ht'))
  refine ⟨hm1.nodef, _, results_list hres a1.tmps hr, _, rfl, _, _, hk, m1, ?_⟩
  exact
     {size := hm.size, nodef := hm.nodef, below := hm1.below,
      env := by
       intro r v hv
       have hmem : (s.get r, a.tmps.getD r undef) ∈ (s.env.map fun p => (s.get p.1, a.tmps.getD p.1 undef)) ++ H :=
        List.mem_append.2 (.inl (List.mem_map.2 ⟨(r, v), lk_mem hv, rfl⟩))
       have := hm1.held _ hmem
       have e : s.get r = v := by unfold S.get; rw [show lk s.env r = some v from hv]
       rw [e] at this; exact this,
      held := by
       intro p hp
       cases List.mem_cons.1 hp with
       | inl e => subst e; exact hrv
       | inr e => exact hm1.held p (List.mem_append.2 (.inr e)),
      rows := hm1.rows, sep := hm1.sep }
 cases e with
 | normal => exact fin hq
 | ret => exact fin hq
 | _ => exact hq.elim
end
end Go.Fv
