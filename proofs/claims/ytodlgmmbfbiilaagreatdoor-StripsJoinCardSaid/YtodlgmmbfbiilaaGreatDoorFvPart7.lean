/-
  A part of the proof of the claim: walks over the program's functions and the plain laws that these need. No condition of its own.
-/
import Derived.Test.YtodlgmmbfbiilaaGreatDoorFvPart4
import Derived.Test.YtodlgmmbfbiilaaGreatDoorFvPart6
import Derived.Orders
import Derived.Still
/-
 Regions, code, loops, calls, contracts.
-/
namespace Go.Fv
set_option linter.unusedSectionVars false
open Go.RowKit
set_option linter.unusedVariables false
set_option linter.unusedSimpArgs false
set_option linter.unnecessarySimpa false
def Enter (P : Program) (f : Nat) : Prop := ∃ fn, P.funcs[f]? = some fn ∧ fn.body.isNone = false ∧ (fn.name == "runtime.NumGoroutine") = false
class BrQ where
 q : Exit → S → Prop
class BrK where
 k : AV → S → Prop
class BrS where
 k : S → Prop
def VcCall (P : Program) (w0 : World) (T0 : Bs) (f : Nat) (args : List AV) (s : S) [K : BrK] : Prop :=
 Enter P f ∧ ∀ (H : List (AV × Value)) (a : Act) (w : World) (m : Nat → Value) (vals : List Value), RepM w0 T0 H s a w m → RvT (ctxOf T0 w0.heap.size m s w) args vals →
  Calls P f vals.toArray w fun e w' => ∃ v, e = .returned v ∧ ∃ r s', K.k r s' ∧ Rep w0 T0 ((r, v) :: H) s' a w'
def HeldB (b0 : Nat) (H : List (AV × Value)) : Prop := ∀ p, p ∈ H → below b0 p.1 = true
def VcLoop (P : Program) (w0 : World) (T0 : Bs) (b0 : Nat) (c : Code) (s : S) [Q : BrQ] : Prop :=
 ∀ (H : List (AV × Value)) (a : Act) (w : World), HeldB b0 H → Rep w0 T0 H s a w → (Code.loop c).wp P (fun e a' w' => ∃ s', Q.q e s' ∧ Rep w0 T0 H s' a' w') a w
def VcDraw (P : Program) (w0 : World) (T0 : Bs) (b0 : Nat) (id : Nat) (ops : Array Oper) (s : S) [Q : BrS] : Prop :=
 ∀ (H : List (AV × Value)) (a : Act) (w : World), HeldB b0 H → Rep w0 T0 H s a w → (Code.region id ops true).wp P (fun e a' w' => e = .normal ∧ ∃ s', Q.k s' ∧ Rep w0 T0 H s' a' w') a w
@[congr] theorem VcCall_congr {P : Program} {w0 : World} {T0 : Bs} {f : Nat} {args args' : List AV} {s s' : S} {K : BrK} (h : args = args') (h2 : s = s') : @VcCall P w0 T0 f args s K = @VcCall P w0 T0 f args' s' K := by rw [h, h2]
@[congr] theorem VcLoop_congr {P : Program} {w0 : World} {T0 : Bs} {b0 : Nat} {c : Code} {s s' : S} {Q : BrQ} (h : s = s') : @VcLoop P w0 T0 b0 c s Q = @VcLoop P w0 T0 b0 c s' Q := by rw [h]
@[congr] theorem VcDraw_congr {P : Program} {w0 : World} {T0 : Bs} {b0 id : Nat} {ops : Array Oper} {s s' : S} {Q : BrS} (h : s = s') : @VcDraw P w0 T0 b0 id ops s Q = @VcDraw P w0 T0 b0 id ops s' Q := by rw [h]
def vcCallOp (P : Program) (w0 : World) (T0 : Bs) (c : Call) (s : S) (K : AV → S → Prop) : Prop :=
 match c.callee with
 | .builtin .append => match c.args.toList, c.argTypes.toList with
  | [x, y], [t, t2] => Chk (opndOk x) (vcAppendN P t t2 x y s K)
  | _, _ => False
 | .builtin .len => match c.args.toList, c.argTypes.toList with
  | [x], [t] => Chk (opndOk x) (vcLen P t x s K)
  | _, _ => False
 | .builtin .unsafeSliceData => match c.args.toList, c.argTypes.toList with
  | [x], [_] => Chk (opndOk x) (vcSlData x s K)
  | _, _ => False
 | .builtin .cap => match c.args.toList, c.argTypes.toList with
  | [x], [t] => Chk (opndOk x) (vcCapN P t x s K)
  | _, _ => False
 | .builtin .unsafeString => match c.args.toList, c.argTypes.toList with
  | [x, n], [pt, _] => Chk (opndOk x ∧ opndOk n) (vcUStr P pt x n s K)
  | _, _ => False
 | .builtin .min => Chk (∀ x, x ∈ c.args.toList → opndOk x) (vcMM false (evs s c.args.toList) (fun r => K r s))
 | .builtin .max => Chk (∀ x, x ∈ c.args.toList → opndOk x) (vcMM true (evs s c.args.toList) (fun r => K r s))
 | .value g => match s.ev g with
  | .fn f caps => Chk (opndOk g ∧ ∀ x, x ∈ c.args.toList → opndOk x) (@VcCall P w0 T0 f (evs s c.args.toList ++ caps) s ⟨K⟩)
  | _ => False
 | _ => False
def vcOp (P : Program) (w0 : World) (T0 : Bs) (o : Oper) (s : S) (K : AV → S → Prop) : Prop :=
 match o.op with
 | .move x => vcMove P o.type x s K
 | .assign x => vcMove P o.type x s K
 | .pick c x y => Chk (opndOk c) (vcPick c x y s K)
 | .extract x i => Chk (opndOk x) (vcExtract x i s K)
 | .makeFunc fn first caps => vcMakeFunc fn first caps s K
 | .box e x => vcBox e x s K
 | .alloc e => vcAlloc P e s K
 | .load t x => match x with
  | .global g => vcGlob P t g s K
  | x => Chk (opndOk x) (vcLoad P t x s K)
 | .store t x v => Chk (opndOk x) (vcStore P t x v s K)
 | .nilCheck x => Chk (opndOk x) (vcNil x s K)
 | .fieldAddr t x k => Chk (opndOk x) (vcFieldAddr P t x k s K)
 | .indexAddr t x i => Chk (opndOk x ∧ opndOk i) (vcIndexAddr P t x i s K)
 | .makeSlice t l c => Chk (opndOk l ∧ opndOk c) (vcMake P t l c s K)
 | .binOp op t x y _ => Chk (opndOk x ∧ opndOk y) (vcBinN P op t y (s.ev x) (s.ev y) (fun r => K r s))
 | .call c => vcCallOp P w0 T0 c s K
 | .unOp op _ x => Chk (opndOk x) (vcUn op x s K)
 | .convert a b x => Chk (opndOk x) (vcConvX P a b x s K)
 | .index t x i => Chk (opndOk x ∧ opndOk i) (vcIndex P t x i s K)
 | .field t x k => Chk (opndOk x) (vcField P t x k s K)
 | .slice t x lo hi mx => Chk (opndOk x) (vcSlice P t x lo hi mx s K)
 | .buildSlice t len parts => vcBuildSlice P t len parts s K
 | .build t parts => vcBuild P t parts s K
 | .lookup t x i ok => vcLookup P t x i ok s K
 | .makeMap t r => vcMakeMap P t r s K
 | .mapUpdate t x k v => vcMapUpd P t x k v s K
 | .mapEntry t x k => vcMapEnt P t x k s K
 | .entryStore _ x st v => vcEntStore x st v s K
 | .range t x => vcRange P t x s K
 | .next x str => vcNext x str s K
 | .entry x => vcEntry x s K
 | _ => False
section
variable {P : Program} {w0 : World} {T0 : Bs} {s : S} [hG : GlB P w0 T0]
theorem vcCallOp_sound {o : Oper} {K : AV → S → Prop} {c : Call} (ho : o.op = .call c) (h : vcCallOp P w0 T0 c s K) : OpSem P w0 T0 o s K := by
 obtain ⟨callee, args, argTypes⟩ := c
 unfold vcCallOp at h
 cases callee with
 | builtin b =>
  cases b <;> try (exact h.elim)
  case append =>
   dsimp only at h
   split at h
   ·rename_i x y t t2 e1 e2
    obtain ⟨hx, h⟩ := h
    have e1' : args = #[x, y] := by apply Array.ext'; simpa using e1
    have e2' : argTypes = #[t, t2] := by apply Array.ext'; simpa using e2
    subst e1' e2'
    exact vcAppendN_sound ho hx h
   ·exact h.elim
  case len =>
   dsimp only at h
   split at h
   ·rename_i x t e1 e2
    obtain ⟨hx, h⟩ := h
    have e1' : args = #[x] := by apply Array.ext'; simpa using e1
    have e2' : argTypes = #[t] := by apply Array.ext'; simpa using e2
    subst e1' e2'
    exact vcLen_sound ho hx h
   ·exact h.elim
  case unsafeSliceData =>
   dsimp only at h
   split at h
   ·rename_i x t e1 e2
    obtain ⟨hx, h⟩ := h
    have e1' : args = #[x] := by apply Array.ext'; simpa using e1
    have e2' : argTypes = #[t] := by apply Array.ext'; simpa using e2
    subst e1' e2'
    exact vcSlData_sound ho hx h
   ·exact h.elim
  case cap =>
   dsimp only at h
   split at h
   ·rename_i x t e1 e2
    obtain ⟨hx, h⟩ := h
    have e1' : args = #[x] := by apply Array.ext'; simpa using e1
    have e2' : argTypes = #[t] := by apply Array.ext'; simpa using e2
    subst e1' e2'
    exact vcCapN_sound ho hx h
   ·exact h.elim
  case unsafeString =>
   dsimp only at h
   split at h
   ·rename_i x n pt it e1 e2
    obtain ⟨⟨hx, hn⟩, h⟩ := h
    have e1' : args = #[x, n] := by apply Array.ext'; simpa using e1
    have e2' : argTypes = #[pt, it] := by apply Array.ext'; simpa using e2
    subst e1' e2'
    exact vcUStr_sound ho hx hn h
   ·exact h.elim
  case min => exact vcMM_sound (isMax := false) ho h.1 h.2
  case max => exact vcMM_sound (isMax := true) ho h.1 h.2
 | invoke r mth => exact h.elim
 | value g =>
  dsimp only at h
  intro H a w next Q ⟨m, hm⟩ hn
  cases hg : s.ev g with
  | fn f caps =>
   rw [hg] at h
   obtain ⟨⟨hog, hoa⟩, ⟨fn, hf, hb, hnm⟩, h⟩ := h
   have rg := hm.ev g hog
   rw [hg] at rg
   generalize hvg : a.eval g = vg at rg
   cases rg with
   | fn _ _ cvals hc =>
    have hargs := (hm.evs hoa).append hc
    have hcalls := h H a w m _ hm hargs
    have hrun : (execOp a.eval o).run P w = .ok (.enter f ((args.toList.map a.eval ++ cvals).toArray)) w := by
     unfold execOp; rw [ho]
     have e : (Array.map a.eval args ++ cvals.toArray) = (args.toList.map a.eval ++ cvals).toArray := by
      apply Array.ext'; simp
     have hnm' : ¬ fn.name = "runtime.NumGoroutine" := by simpa using hnm
     have hb' : ¬ fn.body = none := by intro e; simp [e] at hb
     simp [resolve, hvg, Deferred.ofValue, invoke, callFunc, hf, hb', hnm', e]
    unfold Oper.wp
    rw [hrun]
    refine Calls.mono hcalls ?_
    rintro e w' ⟨v, rfl, r, s', hk, hr⟩
    exact hn r s' v w' hk hr
  | _ => rw [hg] at h; exact h.elim
theorem vcOp_sound {o : Oper} {K : AV → S → Prop} (h : vcOp P w0 T0 o s K) : OpSem P w0 T0 o s K := by
 unfold vcOp at h
 cases ho : o.op <;> rw [ho] at h <;> try (exact h.elim)
 case move x => exact vcMove_sound (.inl ho) h
 case assign x => exact vcMove_sound (.inr ho) h
 case pick c x y => exact vcPick_sound ho h.1 h.2
 case extract x i => exact vcExtract_sound ho h.1 h.2
 case makeFunc fn first caps => exact vcMakeFunc_sound ho h
 case box e x => exact vcBox_sound ho h
 case alloc e => exact vcAlloc_sound ho h
 case load t x =>
  cases x with
  | global g => exact (vcGlob_still ho h).op
  | _ => exact vcLoad_sound ho h.1 h.2
 case store t x v => exact vcStore_sound ho h.1 h.2
 case nilCheck x => exact vcNil_sound ho h.1 h.2
 case fieldAddr t x k => exact vcFieldAddr_sound ho h.1 h.2
 case indexAddr t x i => exact vcIndexAddr_sound ho h.1.1 h.1.2 h.2
 case makeSlice t l c => exact vcMake_sound ho h.1.1 h.1.2 h.2
 case binOp op t x y t' => exact vcBinN_sound ho h.1.1 h.1.2 h.2
 case call c => exact vcCallOp_sound ho h
 case unOp op t x => exact vcUn_sound ho h.1 h.2
 case convert t t' x => exact vcConvX_sound ho h.1 h.2
 case index t x i => exact vcIndex_sound ho h.1.1 h.1.2 h.2
 case field t x k => exact vcField_sound ho h.1 h.2
 case slice t x lo hi mx => exact vcSlice_sound ho h.1 h.2
 case buildSlice t len parts => exact vcBuildSlice_sound ho h
 case build t parts => exact vcBuild_sound ho h
 case lookup t x i ok => exact vcLookup_sound ho h
 case makeMap t r => exact vcMakeMap_sound ho h
 case mapUpdate t x k v => exact vcMapUpd_sound ho h
 case mapEntry t x k => exact vcMapEnt_sound ho h
 case entryStore t x st v => exact vcEntStore_sound ho h
 case range t x => exact vcRange_sound ho h
 case next x str => exact vcNext_sound ho h
 case entry x => exact vcEntry_sound ho h
end
def vcPut (d : Option Nat) (v : AV) (s : S) (Q : S → Prop) : Prop :=
 match d with
 | none => Q s
 | some d => if d < s.n then Q (s.set d v) else False
def pickOk : Op → Prop
 | .pick c x y => opndOk c ∧ opndOk x ∧ opndOk y
 | _ => False
def vcWhen (P : Program) (w0 : World) (T0 : Bs) (o : Oper) (c : Bool) (s s1 s2 : S) (k : S → Prop) : Prop :=
 match gPick s o.op with
 | some (pre, b) => Chk (c = true → pre ∧ pickOk o.op) (vcPut o.dst (.opt c (.bool b)) s k)
 | none => match gVal P (peel s (gOps o.op)) o.op with
  | some v => Chk (Fv.below s.next v = true) (Chk (c = true → peelC s (gOps o.op) = true ∧ vcOp P w0 T0 o (peel s (gOps o.op)) (fun r s' => r = v ∧ s' = peel s (gOps o.op))) (vcPut o.dst (.opt c v) s k))
  | none => @Ite c ⟨Chk (peelC s1 (gOps o.op) = true) (vcOp P w0 T0 o (peel s1 (gOps o.op)) (fun v s' => vcPut o.dst v s' k))⟩ ⟨vcPut o.dst (.opt false (.bool false)) s2 k⟩
def vcGo (P : Program) (w0 : World) (T0 : Bs) (ops : Array Oper) (o : Oper) (s : S) (k : S → Prop) : Prop :=
 match o.guard with
 | none => match gPick s o.op with
  | some (pre, b) => Chk (pre ∧ pickOk o.op) (vcPut o.dst (.bool b) s k)
  | none => vcOp P w0 T0 o s (fun v s' => vcPut o.dst v s' k)
 | some (j, want) => match (ops[j]?).bind (·.dst) with
  | some r => match s.get r with
   | .bool b => vcWhen P w0 T0 o (bif want then b else !b) s (s.set r (.bool want)) (s.set r (.bool (!want))) k
   | .opt c (.bool b) => vcWhen P w0 T0 o (c && bif want then b else !b) s s s k
   | _ => False
  | none => False
def vcOps (P : Program) (w0 : World) (T0 : Bs) (ops : Array Oper) : List Oper → S → (S → Prop) → Prop
 | [], s, Q => Q s
 | o :: rest, s, Q => vcGo P w0 T0 ops o s (fun s' => vcOps P w0 T0 ops rest s' Q)
section
variable {P : Program} {w0 : World} {T0 : Bs} {H : List (AV × Value)} [hG : GlB P w0 T0]
theorem Rep.put {s : S} {a : Act} {w : World} {r : AV} {v : Value} {d : Option Nat} {Q : S → Prop} (h : Rep w0 T0 ((r, v) :: H) s a w) (hq : vcPut d r s Q) : ∃ s', Q s' ∧ Rep w0 T0 H s' (a.put d v) w := by
 obtain ⟨m, hm⟩ := h
 cases d with
 | none => exact ⟨s, hq, m, hm.unhold⟩
 | some d =>
  simp only [vcPut] at hq
  split at hq
  ·rename_i hd; exact ⟨_, hq, m, hm.unhold.putd (hm.held _ (.head _)) hd⟩
  ·exact hq.elim
theorem RepM.know {s : S} {a : Act} {w : World} {m : Nat → Value} (h : RepM w0 T0 H s a w m) {r : Nat} {x : AV} (hx : Rv (ctxOf T0 w0.heap.size m s w) x (a.tmps.getD r undef)) : RepM w0 T0 H (s.set r x) a w m :=
 {size := h.size, nodef := h.nodef, below := h.below, held := h.held, rows := h.rows, sep := h.sep,
  env := by
   intro q y hy
   have hy' : (if r = q then some x else lk s.env q) = some y := hy
   split at hy'
   ·rename_i e; subst e; cases hy'; exact hx
   ·exact h.env q y hy' }
theorem gPick_sound {s : S} {a : Act} {w : World} {o : Oper} {pre : Prop} {b : Bool} (h : gPick s o.op = some (pre, b)) (hp : pre) (hok : pickOk o.op) (hr : Rep w0 T0 H s a w) : (execOp a.eval o).run P w = .ok (.value (.bool b)) w := by
 obtain ⟨m, hm⟩ := hr
 unfold gPick at h
 cases ho : o.op <;> rw [ho] at h hok <;> try (cases h; done)
 rename_i c x y
 obtain ⟨h1, h2, h3⟩ := hok
 dsimp only at h
 split at h
 ·rename_i bc p q ec ex ey
  cases h
  obtain ⟨k1, k2, k3⟩ := hp
  have rc := pk_rv hm h1 k1
  rw [ec] at rc
  generalize hvc : a.eval c = vc at rc
  cases rc
  have hrun : (execOp a.eval o).run P w = .ok (.value (if bc then a.eval x else a.eval y)) w := by
   unfold execOp; rw [ho]; simp [hvc, asBool, Sem.run_bind, Result.andThen]
  cases bc with
  | true =>
   have rx := pk_rv hm h2 (k2 rfl)
   rw [ex] at rx
   generalize hvx : a.eval x = vx at rx hrun
   cases rx
   simpa using hrun
  | false =>
   have ry := pk_rv hm h3 (k3 rfl)
   rw [ey] at ry
   generalize hvy : a.eval y = vy at ry hrun
   cases ry
   simpa using hrun
 ·cases h
theorem vcWhen_sound {o : Oper} {c : Bool} {s s1 s2 : S} {k : S → Prop} (h : vcWhen P w0 T0 o c s s1 s2 k) {a : Act} {w : World} (hr : Rep w0 T0 H s a w) {W : Bool} (hW : W = c) (hr1 : c = true → Rep w0 T0 H s1 a w) (hr2 : c = false → Rep w0 T0 H s2 a w) {K : Act → World → Prop} {Qc : Exit → Act → World → Prop}
  (hk : ∀ s' a' w', k s' → Rep w0 T0 H s' a' w' → K a' w') : if W = true then o.wp P a w K Qc else K (a.put o.dst undef) w := by
 subst hW
 unfold vcWhen at h
 have skip : W = false → ∀ (v : AV) (s : S), Rep w0 T0 H s a w → (∀ c, Rv c v undef) → vcPut o.dst v s k → K (a.put o.dst undef) w := by
  intro _ v s hr hv hp
  obtain ⟨m, hm⟩ := hr
  obtain ⟨s'', h2, hr2⟩ := Rep.put (v := undef) (⟨m, hm.hold (hv _)⟩ : Rep w0 T0 ((v, undef) :: H) s a w) hp
  exact hk _ _ _ h2 hr2
 split at h
 ·rename_i pre b hg
  obtain ⟨hpre, hput⟩ := h
  cases W with
  | true =>
   simp only [if_true]
   obtain ⟨hp, hok⟩ := hpre rfl
   have hrun := gPick_sound (P := P) hg hp hok hr
   unfold Oper.wp
   rw [hrun]
   obtain ⟨m, hm⟩ := hr
   obtain ⟨s'', h2, hr2⟩ := Rep.put (v := .bool b) (⟨m, hm.hold (.opt true (.bool b) (.bool b) rfl (fun _ => .bool b) (fun e => by cases e))⟩ : Rep w0 T0 ((.opt true (.bool b), .bool b) :: H) s a w) hput
   exact hk _ _ _ h2 hr2
  | false =>
   simp only [Bool.false_eq_true, if_false]
   exact skip rfl _ s hr (fun _ => .opt false _ _ rfl (fun e => by cases e) (fun _ => rfl)) hput
 ·split at h
  ·rename_i v hv
   obtain ⟨hb, hpre, hput⟩ := h
   cases W with
   | true =>
    simp only [if_true]
    obtain ⟨hpc, hop⟩ := hpre rfl
    obtain ⟨m, hm⟩ := hr
    refine vcOp_sound hop H a w _ _ ⟨m, hm.peel hpc⟩ ?_
    rintro r s' v' w' ⟨rfl, rfl⟩ ⟨m', hm'⟩
    have hv' := hm'.held _ (.head _)
    have hm2 := hm'.unhold.unpeel hpc
    obtain ⟨s'', h2, hr2⟩ := Rep.put (v := v') (⟨m', hm2.hold (.opt true r v' hb (fun _ => hv') (fun e => by cases e))⟩ : Rep w0 T0 ((.opt true r, v') :: H) s a w') hput
    exact hk _ _ _ h2 hr2
   | false =>
    simp only [Bool.false_eq_true, if_false]
    obtain ⟨m, hm⟩ := hr
    obtain ⟨s'', h2, hr2⟩ := Rep.put (v := undef) (⟨m, hm.hold (.opt false v undef hb (fun e => by cases e) (fun _ => rfl))⟩ : Rep w0 T0 ((.opt false v, undef) :: H) s a w) hput
    exact hk _ _ _ h2 hr2
  ·cases W with
   | true =>
    simp only [if_true]
    obtain ⟨hpc, hop⟩ := h.1 rfl
    obtain ⟨m1, hm1⟩ := hr1 rfl
    refine vcOp_sound hop H a w _ _ ⟨m1, hm1.peel hpc⟩ ?_
    intro r s' v w' hk' hr'
    obtain ⟨s'', h2, hr2⟩ := hr'.put hk'
    exact hk _ _ _ h2 hr2
   | false =>
    simp only [Bool.false_eq_true, if_false]
    exact skip rfl _ s2 (hr2 rfl) (fun _ => .opt false _ _ rfl (fun e => by cases e) (fun _ => rfl)) (h.2 rfl)
theorem vcGo_sound {ops : Array Oper} {o : Oper} {s : S} {k : S → Prop} (h : vcGo P w0 T0 ops o s k) {a : Act} {w : World} (hr : Rep w0 T0 H s a w) {K : Act → World → Prop} {Qc : Exit → Act → World → Prop}
  (hk : ∀ s' a' w', k s' → Rep w0 T0 H s' a' w' → K a' w') : if Region.wanted o (yielded ops a.tmps) then o.wp P a w K Qc else K (a.put o.dst undef) w := by
 unfold vcGo at h
 cases hg : o.guard with
 | none =>
  rw [hg] at h
  rw [if_pos (by simp [Region.wanted, hg])]
  dsimp only at h
  split at h
  ·rename_i pre b hgp
   obtain ⟨⟨hp, hok⟩, hput⟩ := h
   have hrun := gPick_sound (P := P) hgp hp hok hr
   unfold Oper.wp
   rw [hrun]
   obtain ⟨m, hm⟩ := hr
   obtain ⟨s'', h2, hr2⟩ := Rep.put (v := .bool b) (⟨m, hm.hold (.bool b)⟩ : Rep w0 T0 ((.bool b, .bool b) :: H) s a w) hput
   exact hk _ _ _ h2 hr2
  ·refine vcOp_sound h H a w _ _ hr ?_
   intro r s' v w' hk' hr'
   obtain ⟨s'', h2, hr2⟩ := hr'.put hk'
   exact hk _ _ _ h2 hr2
 | some jw =>
  obtain ⟨j, want⟩ := jw
  rw [hg] at h
  dsimp only at h
  cases hd : (ops[j]?).bind (·.dst) with
  | none => rw [hd] at h; exact h.elim
  | some r =>
   rw [hd] at h
   dsimp only at h
   have hslot : ∀ x, s.get r = x → x ≠ .dead → lk s.env r = some x := by
    intro x hx hne
    simp only [S.get] at hx
    cases hl : lk s.env r with
    | none => rw [hl] at hx; exact absurd hx.symm hne
    | some y => rw [hl] at hx; exact congrArg some hx
   have hyield : ∀ b, a.tmps.getD r undef = .bool b → yielded ops a.tmps j = some b := by
    intro b hvv
    have h1 : a.tmps[r]? = some (.bool b) := by
     rw [Array.getD_eq_getD_getElem?] at hvv
     cases hq : a.tmps[r]? with
     | none => rw [hq] at hvv; simp [undef] at hvv
     | some y => rw [hq] at hvv; simpa using hvv
    simp [yielded, hd, h1]
   have hyno : a.tmps.getD r undef = undef → yielded ops a.tmps j = none := by
    intro hvv
    cases hq : a.tmps[r]? with
    | none => simp [yielded, hd, hq]
    | some y =>
     rw [Array.getD_eq_getD_getElem?, hq] at hvv
     have : y = undef := by simpa using hvv
     subst this
     simp [yielded, hd, hq, undef]
   split at h
   ·rename_i b hb
    have hl := hslot _ hb (by simp)
    obtain ⟨m, hm⟩ := hr
    have hv := hm.env r _ hl
    generalize hvv : a.tmps.getD r undef = vv at hv
    cases hv
    have hy := hyield b hvv
    refine vcWhen_sound h ⟨m, hm⟩ ?_ ?_ ?_ hk
    ·cases want <;> cases b <;> simp [Region.wanted, hg, hy]
    ·intro hc
     refine ⟨m, hm.know ?_⟩
     rw [hvv]
     have : b = want := by cases want <;> cases b <;> simp at hc <;> rfl
     rw [this]; exact .bool want
    ·intro hc
     refine ⟨m, hm.know ?_⟩
     rw [hvv]
     have : b = !want := by cases want <;> cases b <;> simp at hc <;> rfl
     rw [this]; exact .bool _
   ·rename_i c b hb
    have hl := hslot _ hb (by simp)
    have hr' := hr
    obtain ⟨m, hm⟩ := hr'
    have hv := hm.env r _ hl
    refine vcWhen_sound h hr ?_ (fun _ => hr) (fun _ => hr) hk
    cases hv with
    | opt _ _ _ _ h1 h2 =>
     cases c with
     | true =>
      have h1' := h1 rfl
      generalize hvv : a.tmps.getD r undef = vv at h1'
      cases h1'
      have hy := hyield b hvv
      cases want <;> cases b <;> simp [Region.wanted, hg, hy]
     | false =>
      have hy := hyno (h2 rfl)
      cases want <;> simp [Region.wanted, hg, hy]
   ·exact h.elim
theorem vcOps_sound {ops : Array Oper} {Qc : Exit → Act → World → Prop} : ∀ (l : List Oper) (s : S) (Q : S → Prop), vcOps P w0 T0 ops l s Q → ∀ (a : Act) (w : World), Rep w0 T0 H s a w →
  (∀ s' a' w', Q s' → Rep w0 T0 H s' a' w' → Qc .normal a' w') → wpList P ops Qc l a w
 | [], s, Q, h, a, w, hr, hq => wpList_nil (hq s a w h hr)
 | o :: rest, s, Q, h, a, w, hr, hq => by
  unfold vcOps at h
  refine wpList_step fun K hK => ?_
  exact vcGo_sound h hr fun s' a' w' hk hr' => hK _ _ (vcOps_sound rest s' Q hk a' w' hr' hq)
end
/-! ### Regions whose order is drawn -/
inductive DTree where
 | done
 | first (i : Nat) (t : DTree)
 | cons (i : Nat) (t r : DTree)
 | stop
def isMove (o : Oper) : Bool := match o.guard, o.op with
 | none, .move _ => true
 | none, .assign _ => true
 | none, .fieldAddr _ _ _ => true
 | _, _ => false
def treeOk (ops : Array Oper) : DTree → Nat → Array Bool → Option (List Nat) → Bool
 | .done, _, listed, none => (Region.ready .any ops listed).isEmpty
 | .first i t, n + 1, listed, none => ((ops[i]?).map isMove).getD false && Region.free .any ops listed i && (Region.ready .any ops listed).contains i && treeOk ops t n (listed.setIfInBounds i true) none
 | .cons i t r, n + 1, listed, none => match Region.ready .any ops listed with
  | j :: l => i == j && treeOk ops t n (listed.setIfInBounds i true) none && treeOk ops r (n + 1) listed (some l)
  | [] => false
 | .cons i t r, n + 1, listed, some q => match q with
  | j :: l => i == j && treeOk ops t n (listed.setIfInBounds i true) none && treeOk ops r (n + 1) listed (some l)
  | [] => false
 | .stop, _ + 1, _, some q => q.isEmpty
 | _, _, _, _ => false
def vcTree (P : Program) (w0 : World) (T0 : Bs) (ops : Array Oper) : DTree → S → (S → Prop) → Prop
 | .done, s, Q => Q s
 | .first i t, s, Q => match ops[i]? with
  | some o => match o.op with
   | .move x => Chk (opndOk x) (vcPut o.dst (s.ev x) s (fun s' => vcTree P w0 T0 ops t s' Q))
   | .assign x => Chk (opndOk x) (vcPut o.dst (s.ev x) s (fun s' => vcTree P w0 T0 ops t s' Q))
   | .fieldAddr ty x k => Chk (opndOk x) (vcFieldAddr P ty x k s (fun r s1 => vcPut o.dst r s1 (fun s' => vcTree P w0 T0 ops t s' Q)))
   | _ => False
  | none => False
 | .cons i t r, s, Q => match ops[i]? with
  | some o => vcGo P w0 T0 ops o s (fun s' => vcTree P w0 T0 ops t s' Q) ∧ vcTree P w0 T0 ops r s Q
  | none => False
 | .stop, _, _ => True
def thenS (next : S → Prop) (Q : Exit → S → Prop) : Exit → S → Prop
 | .normal, s => next s
 | e, s => Q e s
def blockS (id : Nat) (Q : Exit → S → Prop) : Exit → S → Prop
 | .exit i, s => if i = id then Q .normal s else Q (.exit i) s
 | e, s => Q e s
def knowB (c : Operand) (b : Bool) (s : S) : S :=
 match c with
 | .tmp t => s.set t (.bool b)
 | _ => s
def vcCode (P : Program) (w0 : World) (T0 : Bs) (b0 : Nat) : Code → (Exit → S → Prop) → S → Prop
 | .skip, Q, s => Q .normal s
 | .label _, Q, s => Q .normal s
 | .region id ops draw, Q, s => match draw with
  | true => @VcDraw P w0 T0 b0 id ops s ⟨Q .normal⟩
  | false => vcOps P w0 T0 ops ops.toList s (Q .normal)
 | .seq x y, Q, s => vcCode P w0 T0 b0 x (thenS (vcCode P w0 T0 b0 y Q) Q) s
 | .cond c x y, Q, s => match s.ev c with
  | .bool b => Chk (opndOk c) (@Ite b ⟨vcCode P w0 T0 b0 x Q (knowB c true s)⟩ ⟨vcCode P w0 T0 b0 y Q (knowB c false s)⟩)
  | _ => False
 | .block id c, Q, s => vcCode P w0 T0 b0 c (blockS id Q) s
 | .loop c, Q, s => @VcLoop P w0 T0 b0 c s ⟨Q⟩
 | .exit id, Q, s => Q (.exit id) s
 | .ret, Q, s => Q .ret s
 | _, _, _ => False
section
variable {P : Program} {w0 : World} {T0 : Bs} {b0 : Nat} [hG : GlB P w0 T0]
theorem vcCode_sound : ∀ (c : Code) (Q : Exit → S → Prop) (s : S), vcCode P w0 T0 b0 c Q s → ∀ (H : List (AV × Value)) (a : Act) (w : World), HeldB b0 H → Rep w0 T0 H s a w →
  c.wp P (fun e a' w' => ∃ s', Q e s' ∧ Rep w0 T0 H s' a' w') a w := by
 intro c
 induction c with
 | skip => intro Q s h H a w hH hr; exact wp_skip ⟨s, h, hr⟩
 | label l => intro Q s h H a w hH hr; exact wp_label ⟨s, h, hr⟩
 | region id ops draw =>
  intro Q s h H a w hH hr
  cases draw with
  | true =>
   exact wp_mono (h H a w hH hr) fun e a' w' ⟨he, s', hq, hr'⟩ => by subst he; exact ⟨s', hq, hr'⟩
  | false =>
   exact wp_region_list (vcOps_sound ops.toList s (Q .normal) h a w hr fun s' a' w' hq hr' => ⟨s', hq, hr'⟩)
 | seq x y ihx ihy =>
  intro Q s h H a w hH hr
  refine wp_seq (wp_mono (ihx _ s h H a w hH hr) ?_)
  rintro e a' w' ⟨s', hq, hr'⟩
  cases e with
  | normal => exact ihy Q s' hq H a' w' hH hr'
  | _ => exact ⟨s', hq, hr'⟩
 | cond c x y ihx ihy =>
  intro Q s h H a w hH hr
  simp only [vcCode] at h
  obtain ⟨m, hm⟩ := hr
  cases hc : s.ev c with
  | bool b =>
   rw [hc] at h
   obtain ⟨hok, h⟩ := h
   have rc := hm.ev c hok
   rw [hc] at rc
   generalize hv : a.eval c = vc at rc
   cases rc
   have hk : Rep w0 T0 H (knowB c b s) a w := by
    cases c with
    | tmp t => exact ⟨m, hm.know (by have : a.tmps.getD t undef = .bool b := hv; rw [this]; exact .bool b)⟩
    | _ => exact ⟨m, hm⟩
   cases b with
   | true => exact wp_cond_true hv (ihx Q _ (h.1 rfl) H a w hH hk)
   | false => exact wp_cond_false hv (ihy Q _ (h.2 rfl) H a w hH hk)
  | _ => rw [hc] at h; exact h.elim
 | block id c ih =>
  intro Q s h H a w hH hr
  refine wp_block (wp_mono (ih _ s h H a w hH hr) ?_)
  rintro e a' w' ⟨s', hq, hr'⟩
  cases e with
  | exit i =>
   simp only [blockS] at hq
   simp only [Exit.inBlock]
   split at hq
   ·rename_i e; rw [if_pos e]; exact ⟨s', hq, hr'⟩
   ·rename_i e; rw [if_neg e]; exact ⟨s', hq, hr'⟩
  | _ => exact ⟨s', hq, hr'⟩
 | loop c ih => intro Q s h H a w hH hr; exact h H a w hH hr
 | exit id => intro Q s h H a w hH hr; exact wp_exit ⟨s, h, hr⟩
 | ret => intro Q s h H a w hH hr; exact wp_ret ⟨s, h, hr⟩
 | _ => intro Q s h; exact h.elim
/-! ### States that say less -/
def Ent (w0 : World) (T0 : Bs) (b0 : Nat) (s s' : S) : Prop := ∀ (H : List (AV × Value)) (a : Act) (w : World), HeldB b0 H → Rep w0 T0 H s a w → Rep w0 T0 H s' a w
theorem VcLoop.intro {c : Code} {s : S} {Q : Exit → S → Prop} {α : Type} (shape : α → S) (I : α → Prop) (μ : α → Nat) (x0 : α) (h0 : Ent w0 T0 b0 s (shape x0)) (hI : I x0)
  (body : ∀ x, I x → vcCode P w0 T0 b0 c (thenS (fun s' => ∃ x', Ent w0 T0 b0 s' (shape x') ∧ I x' ∧ μ x' < μ x) Q) (shape x)) : @VcLoop P w0 T0 b0 c s ⟨Q⟩ := by
 intro H a w hH hr
 refine wp_loop_ghost (fun n a w => ∃ x, μ x = n ∧ I x ∧ Rep w0 T0 H (shape x) a w) (μ x0) ⟨x0, rfl, hI, h0 H a w hH hr⟩ ?_
 rintro n a w ⟨x, rfl, hx, hr⟩
 refine wp_mono (vcCode_sound c _ _ (body x hx) H a w hH hr) ?_
 rintro e a' w' ⟨s', hq, hr'⟩
 cases e with
 | normal =>
  obtain ⟨x', he, hI', hlt⟩ := hq
  exact ⟨μ x', hlt, x', rfl, hI', he H a' w' hH hr'⟩
 | _ => exact ⟨s', hq, hr'⟩
def VcRun (P : Program) (w0 : World) (T0 : Bs) (b0 : Nat) (c : Code) (s : S) (Q : Exit → S → Prop) : Prop :=
 ∀ (H : List (AV × Value)) (a : Act) (w : World), HeldB b0 H → Rep w0 T0 H s a w → c.wp P (fun e a' w' => ∃ s', Q e s' ∧ Rep w0 T0 H s' a' w') a w
theorem VcRun.of {c : Code} {s : S} {Q : Exit → S → Prop} (h : vcCode P w0 T0 b0 c Q s) : VcRun P w0 T0 b0 c s Q := vcCode_sound c Q s h
theorem VcRun.seq {x y : Code} {s : S} {Q : Exit → S → Prop} (h : vcCode P w0 T0 b0 x (thenS (fun s' => VcRun P w0 T0 b0 y s' Q) Q) s) : VcRun P w0 T0 b0 (.seq x y) s Q := by
 intro H a w hH hr
 refine wp_seq (wp_mono (vcCode_sound x _ s h H a w hH hr) ?_)
 rintro e a' w' ⟨s', hq, hr'⟩
 cases e with
 | normal => exact hq H a' w' hH hr'
 | _ => exact ⟨s', hq, hr'⟩
theorem VcRun.cut {x y : Code} {s : S} {Q : Exit → S → Prop} {α : Type} (shape : α → S) (I : α → Prop) (h : VcRun P w0 T0 b0 x s (thenS (fun s' => ∃ z, Ent w0 T0 b0 s' (shape z) ∧ I z) Q)) (h2 : ∀ z, I z → VcRun P w0 T0 b0 y (shape z) Q) : VcRun P w0 T0 b0 (.seq x y) s Q := by
 intro H a w hH hr
 refine wp_seq (wp_mono (h H a w hH hr) ?_)
 rintro e a' w' ⟨s', hq, hr'⟩
 cases e with
 | normal => obtain ⟨z, he, hz⟩ := hq; exact h2 z hz H a' w' hH (he H a' w' hH hr')
 | _ => exact ⟨s', hq, hr'⟩
theorem VcRun.block {x : Code} {id : Nat} {s : S} {Q : Exit → S → Prop} (h : VcRun P w0 T0 b0 x s (blockS id Q)) : VcRun P w0 T0 b0 (.block id x) s Q := by
 intro H a w hH hr
 refine wp_block (wp_mono (h H a w hH hr) ?_)
 rintro e a' w' ⟨s', hq, hr'⟩
 cases e with
 | exit i =>
  simp only [blockS] at hq
  simp only [Exit.inBlock]
  split at hq
  ·rename_i e; rw [if_pos e]; exact ⟨s', hq, hr'⟩
  ·rename_i e; rw [if_neg e]; exact ⟨s', hq, hr'⟩
 | _ => exact ⟨s', hq, hr'⟩
theorem VcRun.ent {x : Code} {s s' : S} {Q : Exit → S → Prop} (he : Ent w0 T0 b0 s s') (h : VcRun P w0 T0 b0 x s' Q) : VcRun P w0 T0 b0 x s Q :=
 fun H a w hH hr => h H a w hH (he H a w hH hr)
theorem VcLoop.run {c : Code} {s : S} {Q : Exit → S → Prop} {α : Type} (shape : α → S) (I : α → Prop) (μ : α → Nat) (x0 : α) (h0 : Ent w0 T0 b0 s (shape x0)) (hI : I x0)
  (body : ∀ x, I x → VcRun P w0 T0 b0 c (shape x) (thenS (fun s' => ∃ x', Ent w0 T0 b0 s' (shape x') ∧ I x' ∧ μ x' < μ x) Q)) : @VcLoop P w0 T0 b0 c s ⟨Q⟩ := by
 intro H a w hH hr
 refine wp_loop_ghost (fun n a w => ∃ x, μ x = n ∧ I x ∧ Rep w0 T0 H (shape x) a w) (μ x0) ⟨x0, rfl, hI, h0 H a w hH hr⟩ ?_
 rintro n a w ⟨x, rfl, hx, hr⟩
 refine wp_mono (body x hx H a w hH hr) ?_
 rintro e a' w' ⟨s', hq, hr'⟩
 cases e with
 | normal =>
  obtain ⟨x', he, hI', hlt⟩ := hq
  exact ⟨μ x', hlt, x', rfl, hI', he H a' w' hH hr'⟩
 | _ => exact ⟨s', hq, hr'⟩
end
end Go.Fv
/-
 States that say less; contracts of functions; calls.
-/
namespace Go.Fv
set_option linter.unusedSectionVars false
open Go.RowKit
set_option linter.unusedVariables false
set_option linter.unusedSimpArgs false
set_option linter.unnecessarySimpa false
mutual
theorem noId_ren (p : Nat → Nat) : ∀ x : AV, noId x = true → ren p x = x
 | .own i, h => by simp [noId] at h
 | .ptr i o, h => by simp [noId] at h
 | .elt i a b c, h => by simp [noId] at h
 | .pre i k, h => by simp [noId] at h
 | .agg cs, h => by simp only [ren]; rw [noIdL_ren p cs (by simpa [noId] using h)]
 | .tup cs, h => by simp only [ren]; rw [noIdL_ren p cs (by simpa [noId] using h)]
 | .fn f cs, h => by simp only [ren]; rw [noIdL_ren p cs (by simpa [noId] using h)]
 | .cell cs, _ => rfl
 | .dead, _ => rfl
 | .nilS, _ => rfl
 | .bool _, _ => rfl
 | .int _ _, _ => rfl
 | .str _, _ => rfl
 | .ro _, _ => rfl
 | .raw _, _ => rfl
 | .mp _ _, _ => rfl
 | .opt b v, h => by simp only [ren]; rw [noId_ren p v (by simpa [noId] using h)]
theorem noIdL_ren (p : Nat → Nat) : ∀ x : List AV, noIdL x = true → renL p x = x
 | [], _ => rfl
 | x :: l, h => by
  simp only [noIdL, Bool.and_eq_true] at h
  simp only [renL]; rw [noId_ren p x h.1, noIdL_ren p l h.2]
end
def Item.ren (p : Nat → Nat) : Item → Item
 | .row e r => .row e (renR p r)
 | .box e cs => .box e (renL p cs)
 | .map ks vs => .map (renL p ks) (renL p vs)
 | .iter mp since seen => .iter (p mp) since seen
 | .siter t pos => .siter t pos
def Item.below (n : Nat) : Item → Bool
 | .row _ r => belowR n r
 | .box _ cs => belowL n cs
 | .map ks vs => belowL n ks && belowL n vs
 | .iter mp _ _ => decide (mp < n)
 | .siter _ _ => true
class RowNoId (r : RowV) : Prop where
 ok : noIdR r = true
instance {l : List Bool} : RowNoId (.bools l) := ⟨rfl⟩
instance {k : IntKind} {l : List Int} : RowNoId (.ints k l) := ⟨rfl⟩
instance {l : List (List UInt8)} : RowNoId (.strs l) := ⟨rfl⟩
class LNoId (l : List (List AV)) : Prop where
 ok : l.all noIdL = true
class FNoId {α : Type} (f : α → List AV) : Prop where
 ok : ∀ x, noIdL (f x) = true
class ENoId (l : List AV) : Prop where
 ok : noIdL l = true
instance {sz : Nat} {l : List (List AV)} [h : LNoId l] : RowNoId (.objs sz l) := ⟨h.ok⟩
instance : LNoId [] := ⟨rfl⟩
instance {x : List AV} {l : List (List AV)} [h : ENoId x] [h2 : LNoId l] : LNoId (x :: l) := ⟨by simp [List.all_cons, h.ok, h2.ok]⟩
instance {l l' : List (List AV)} [h : LNoId l] [h2 : LNoId l'] : LNoId (l ++ l') := ⟨by simp [List.all_append, h.ok, h2.ok]⟩
instance {α : Type} {f : α → List AV} {l : List α} [h : FNoId f] : LNoId (l.map f) := ⟨by simp [List.all_map, List.all_eq_true, h.ok]⟩
instance {x : List AV} {n : Nat} [h : ENoId x] : LNoId (List.replicate n x) := ⟨by simp [List.all_eq_true, List.mem_replicate, h.ok]⟩
instance {α : Type} {f : α → List AV} {x : α} [h : FNoId f] : ENoId (f x) := ⟨h.ok x⟩
instance {l : List (List AV)} {n : Nat} [h : LNoId l] : LNoId (l.take n) := ⟨by have := h.ok; simp only [List.all_eq_true] at *; exact fun x hx => this x (List.mem_of_mem_take hx)⟩
instance {l : List (List AV)} {n : Nat} [h : LNoId l] : LNoId (l.drop n) := ⟨by have := h.ok; simp only [List.all_eq_true] at *; exact fun x hx => this x (List.mem_of_mem_drop hx)⟩
theorem lall_set : ∀ (l : List (List AV)) (n : Nat) (x : List AV), l.all noIdL = true → noIdL x = true → (l.set n x).all noIdL = true
 | [], _, _, _, _ => rfl
 | y :: l, 0, x, h, hx => by simp only [List.all_cons, Bool.and_eq_true, List.set_cons_zero] at *; exact ⟨hx, h.2⟩
 | y :: l, n + 1, x, h, hx => by simp only [List.all_cons, Bool.and_eq_true, List.set_cons_succ] at *; exact ⟨h.1, lall_set l n x h.2 hx⟩
instance {l : List (List AV)} {n : Nat} {x : List AV} [h : LNoId l] [h2 : ENoId x] : LNoId (l.set n x) := ⟨lall_set _ _ _ h.ok h2.ok⟩
class VNoId (x : AV) : Prop where
 ok : noId x = true
instance : ENoId [] := ⟨rfl⟩
instance {x : AV} {l : List AV} [h : VNoId x] [h2 : ENoId l] : ENoId (x :: l) := ⟨by simp [noIdL, h.ok, h2.ok]⟩
instance {k : IntKind} {n : Int} : VNoId (.int k n) := ⟨rfl⟩
instance {b : Bool} : VNoId (.bool b) := ⟨rfl⟩
instance {s : List UInt8} : VNoId (.str s) := ⟨rfl⟩
instance {r : RowV} : VNoId (.ro r) := ⟨rfl⟩
instance {r : List AV} : VNoId (.cell r) := ⟨rfl⟩
instance : VNoId .nilS := ⟨rfl⟩
instance : VNoId .dead := ⟨rfl⟩
instance {v : Value} : VNoId (.raw v) := ⟨rfl⟩
instance {ks vs : List AV} : VNoId (.mp ks vs) := ⟨rfl⟩
theorem noIdR_ok (r : RowV) [h : RowNoId r] : noIdR r = true := h.ok
theorem lall_ren (p : Nat → Nat) : ∀ (l : List (List AV)), l.all noIdL = true → l.map (renL p) = l := fun l h => by
 simp only [List.all_eq_true] at h
 conv => rhs; rw [← List.map_id l]
 exact List.map_congr_left fun x hx => noIdL_ren p x (h x hx)
theorem renR_same (p : Nat → Nat) {r : RowV} (h : noIdR r = true) : renR p r = r := by
 cases r with
 | objs sz l => simp only [renR]; rw [lall_ren p l h]
 | _ => rfl
theorem renR_ok (p : Nat → Nat) (r : RowV) [h : RowNoId r] : renR p r = r := renR_same p h.ok
theorem belowR_ok (n : Nat) (r : RowV) [h : RowNoId r] : belowR n r = true := noIdR_below n r h.ok
def pm (l : List (Nat × Nat)) (i : Nat) : Nat := match lk l i with | some j => j | none => i
def envOk (p : Nat → Nat) (s : S) (N : Nat) : List (Nat × AV) → Prop
 | [] => True
 |(r, v) :: l => (s.get r = ren p v ∧ Fv.below N v = true) ∧ envOk p s N l
def subOk (p : Nat → Nat) (rows : List (Nat × Item)) (N : Nat) : List (Nat × Item) → Prop
 | [] => True
 |(i, it) :: l => (i < N ∧ lk rows (p i) = some (it.ren p) ∧ it.below N = true ∧ ∀ x, x ∈ l → x.1 = i ∨ p x.1 ≠ p i) ∧ subOk p rows N l
theorem lk_mem {α : Type} : ∀ {l : List (Nat × α)} {i : Nat} {v : α}, lk l i = some v → (i, v) ∈ l
 |(j, x) :: l, i, v, h => by
  simp only [lk] at h
  split at h
  ·rename_i e; subst e; cases h; exact .head _
  ·exact .tail _ (lk_mem h)
theorem envOk_mem {p : Nat → Nat} {s : S} {N : Nat} : ∀ {l : List (Nat × AV)}, envOk p s N l → ∀ r v, (r, v) ∈ l → s.get r = ren p v ∧ Fv.below N v = true
 |(q, y) :: l, h, r, v, hm => by
  cases List.mem_cons.1 hm with
  | inl e => cases e; exact h.1
  | inr e => exact envOk_mem h.2 r v e
theorem subOk_mem {p : Nat → Nat} {rows : List (Nat × Item)} {N : Nat} : ∀ {l : List (Nat × Item)}, subOk p rows N l → ∀ i it, (i, it) ∈ l → i < N ∧ lk rows (p i) = some (it.ren p) ∧ it.below N = true
 |(q, y) :: l, h, i, it, hm => by
  cases List.mem_cons.1 hm with
  | inl e => cases e; exact ⟨h.1.1, h.1.2.1, h.1.2.2.1⟩
  | inr e => exact subOk_mem h.2 i it e
theorem subOk_inj {p : Nat → Nat} {rows : List (Nat × Item)} {N : Nat} : ∀ {l : List (Nat × Item)}, subOk p rows N l → ∀ i j it jt, (i, it) ∈ l → (j, jt) ∈ l → p i = p j → i = j
 |(q, y) :: l, h, i, j, it, jt, hi, hj, e => by
  cases List.mem_cons.1 hi with
  | inl e1 =>
   cases e1
   cases List.mem_cons.1 hj with
   | inl e2 => cases e2; rfl
   | inr e2 => cases h.1.2.2.2 _ e2 with
    | inl e3 => exact e3.symm
    | inr e3 => exact absurd e.symm e3
  | inr e1 =>
   cases List.mem_cons.1 hj with
   | inl e2 =>
    cases e2
    cases h.1.2.2.2 _ e1 with
    | inl e3 => exact e3
    | inr e3 => exact absurd e e3
   | inr e2 => exact subOk_inj h.2 i j it jt e1 e2 e
theorem ItemOk.ren {p : Nat → Nat} {c c' : Ctx} (h : CtxRen p c c') (hw : c'.w.heap = c.w.heap) {O : Nat → Prop} {v : Value} {it : Item} (hb : it.below c'.N = true) (hi : ItemOk c O v (it.ren p)) : ItemOk c' O v it := by
 have hh : ∀ b : Nat, c'.w.heap[b]? = c.w.heap[b]? := fun b => by rw [hw]
 cases it with
 | row e r =>
  obtain ⟨n, cells, hr, hn, ho, hO⟩ := hi
  have h1 : (renR p r).len = r.len := by cases r <;> simp [renR, RowV.len]
  have h2 : (renR p r).sz = r.sz := by cases r <;> rfl
  rw [h1] at hn; rw [h2] at ho
  exact ⟨n, cells, RowC.ren h r hb hr, hn, ownsRow_of_heap ho fun g _ => hh g, hO⟩
 | box e cs =>
  obtain ⟨g, vs, rfl, hg, hl, he⟩ := hi
  exact ⟨g, vs, rfl, hg, RvL.ren h cs hb hl, by rw [hh g]; exact he⟩
 | map ks vs =>
  simp only [Item.below, Bool.and_eq_true] at hb
  obtain ⟨g, es, clock, rfl, hg, h1, h2, h3, h4, he⟩ := hi
  exact ⟨g, es, clock, rfl, hg, RvT.ren h ks hb.1 h1, RvT.ren h vs hb.2 h2, h3, h4, by rw [hh g]; exact he⟩
 | iter mp since seen =>
  obtain ⟨g, q, sn, last, rfl, hg, h1, h2, h3, h4, he⟩ := hi
  have hlt : mp < c'.N := by simpa [Item.below] using hb
  exact ⟨g, q, sn, last, rfl, hg, hlt, by rw [h.m mp hlt]; exact h2, h3, h4, by rw [hh g]; exact he⟩
 | siter t pos =>
  obtain ⟨g, rfl, hg, he⟩ := hi
  exact ⟨g, rfl, hg, by rw [hh g]; exact he⟩
mutual
theorem ren_low {p : Nat → Nat} {b0 : Nat} (hp : ∀ i, i < b0 → p i = i) : ∀ x : AV, Fv.below b0 x = true → ren p x = x
 | .own i, h => by simp only [ren]; rw [hp i (by simpa [Fv.below] using h)]
 | .ptr i o, h => by simp only [ren]; rw [hp i (by simpa [Fv.below] using h)]
 | .elt i a b c, h => by simp only [ren]; rw [hp i (by simpa [Fv.below] using h)]
 | .pre i k, h => by simp only [ren]; rw [hp i (by simpa [Fv.below] using h)]
 | .agg cs, h => by simp only [ren]; rw [renL_low hp cs (by simpa [Fv.below] using h)]
 | .tup cs, h => by simp only [ren]; rw [renL_low hp cs (by simpa [Fv.below] using h)]
 | .fn f cs, h => by simp only [ren]; rw [renL_low hp cs (by simpa [Fv.below] using h)]
 | .cell cs, _ => rfl
 | .dead, _ => rfl
 | .nilS, _ => rfl
 | .bool _, _ => rfl
 | .int _ _, _ => rfl
 | .str _, _ => rfl
 | .ro _, _ => rfl
 | .raw _, _ => rfl
 | .opt b v, h => by simp only [ren]; rw [ren_low hp v (by simpa [Fv.below] using h)]
 | .mp _ _, _ => rfl
theorem renL_low {p : Nat → Nat} {b0 : Nat} (hp : ∀ i, i < b0 → p i = i) : ∀ x : List AV, belowL b0 x = true → renL p x = x
 | [], _ => rfl
 | x :: l, h => by
  simp only [belowL, Bool.and_eq_true] at h
  simp only [renL]; rw [ren_low hp x h.1, renL_low hp l h.2]
end
theorem renR_low {p : Nat → Nat} {b0 : Nat} (hp : ∀ i, i < b0 → p i = i) (r : RowV) (h : belowR b0 r = true) : renR p r = r := by
 cases r with
 | objs sz l =>
  simp only [belowR, List.all_eq_true] at h
  simp only [renR]
  congr 1
  conv => rhs; rw [← List.map_id l]
  exact List.map_congr_left fun x hx => renL_low hp x (h x hx)
 | _ => rfl
theorem Item.ren_low {p : Nat → Nat} {b0 : Nat} (hp : ∀ i, i < b0 → p i = i) (it : Item) (h : it.below b0 = true) : it.ren p = it := by
 cases it with
 | row e r => simp only [Item.ren]; rw [renR_low hp r h]
 | box e cs => simp only [Item.ren]; rw [renL_low hp cs h]
 | map ks vs =>
  simp only [Item.below, Bool.and_eq_true] at h
  simp only [Item.ren]; rw [renL_low hp ks h.1, renL_low hp vs h.2]
 | iter mp since seen => simp only [Item.ren]; rw [hp mp (by simpa [Item.below] using h)]
 | siter t pos => rfl
theorem ItemOk.ids {c : Ctx} {O : Nat → Prop} {v : Value} {it : Item} (h : ItemOk c O v it) : it.below c.N = true := by
 cases it with
 | row e r => obtain ⟨n, cells, hr, _⟩ := h; exact hr.ids
 | box e cs => obtain ⟨g, vs, _, _, hl, _⟩ := h; exact hl.ids
 | map ks vs => obtain ⟨g, es, clock, _, _, h1, h2, _⟩ := h; simp [Item.below, h1.ids, h2.ids]
 | iter mp since seen => obtain ⟨g, q, sn, last, _, _, h1, _⟩ := h; simpa [Item.below] using h1
 | siter t pos => rfl
theorem Rv.cut {w : World} {A : Nat → Prop} {m : Nat → Value} {No N : Nat} {x : AV} {u : Value} (hx : Rv ⟨w, A, m, No⟩ x u) (hb : Fv.below N x = true) : Rv ⟨w, A, m, N⟩ x u := by
 refine Rv.ren (p := id) (c := ⟨w, A, m, No⟩) (c' := ⟨w, A, m, N⟩) ⟨fun _ _ => rfl, fun b hb _ => ⟨hb, rfl⟩⟩ x hb ?_
 rw [ren_low (p := id) (fun _ _ => rfl) x hx.ids]; exact hx
theorem ItemOk.cut {w : World} {A : Nat → Prop} {m : Nat → Value} {No N : Nat} {O : Nat → Prop} {v : Value} {it : Item} (hx : ItemOk ⟨w, A, m, No⟩ O v it) (hb : it.below N = true) : ItemOk ⟨w, A, m, N⟩ O v it := by
 refine ItemOk.ren (p := id) (c := ⟨w, A, m, No⟩) (c' := ⟨w, A, m, N⟩) ⟨fun _ _ => rfl, fun b hb _ => ⟨hb, rfl⟩⟩ rfl hb ?_
 rw [Item.ren_low (p := id) (fun _ _ => rfl) it hx.ids]; exact hx
section
variable {P : Program} {w0 : World} {T0 : Bs} {b0 : Nat}
theorem Ent.of (l : List (Nat × Nat)) {s s' : S} (hn : s'.n = s.n) (hb : b0 ≤ s'.next) (hl : ∀ x, x ∈ l → b0 ≤ x.1) (he : envOk (pm l) s s'.next s'.env) (hr : subOk (pm l) s.rows s'.next s'.rows) : Ent w0 T0 b0 s s' := by
 rintro H a w hH ⟨m, hm⟩
 have hlow : ∀ i, i < b0 → pm l i = i := by
  intro i hi
  unfold pm
  cases h : lk l i with
  | none => rfl
  | some j => have := hl _ (lk_mem h); simp at this; omega
 have hren : CtxRen (pm l) (ctxOf T0 w0.heap.size m s w) (ctxOf T0 w0.heap.size (fun i => m (pm l i)) s' w) :=
  {m := fun _ _ => rfl,
   t := by
    intro b ⟨h1, h2⟩ _
    refine ⟨⟨h1, fun i it hi e => ?_⟩, rfl⟩
    obtain ⟨_, h3, _⟩ := subOk_mem hr i it (lk_mem hi)
    exact h2 _ _ h3 e }
 refine ⟨fun i => m (pm l i), { size := by rw [hn]; exact hm.size, nodef := hm.nodef, below := hm.below, env := ?_, held := ?_, rows := ?_, sep := ?_ }⟩
 ·intro r v hv
  obtain ⟨h1, h2⟩ := envOk_mem he r v (lk_mem hv)
  refine Rv.ren hren v h2 ?_
  have : Rv (ctxOf T0 w0.heap.size m s w) (s.get r) (a.tmps.getD r undef) := by
   simp only [S.get]
   cases hq : lk s.env r with
   | none => exact .dead _
   | some y => exact hm.env r y hq
  rw [← h1]; exact this
 ·intro q hq
  have h1 := hH q hq
  refine Rv.ren hren q.1 (below_le hb _ h1) ?_
  rw [ren_low hlow _ h1]; exact hm.held q hq
 ·intro i it hi
  obtain ⟨h1, h2, h3⟩ := subOk_mem hr i it (lk_mem hi)
  exact ⟨h1, ItemOk.ren hren rfl h3 (hm.rows _ _ h2).2⟩
 ·intro i j it jt b hi hj hbi hbj
  obtain ⟨_, h2, _⟩ := subOk_mem hr i it (lk_mem hi)
  obtain ⟨_, h2', _⟩ := subOk_mem hr j jt (lk_mem hj)
  exact subOk_inj hr i j it jt (lk_mem hi) (lk_mem hj) (hm.sep _ _ _ _ b h2 h2' hbi hbj)
theorem Ent.refl (s : S) : Ent w0 T0 b0 s s := fun _ _ _ _ h => h
theorem Ent.trans {s s' s'' : S} (h : Ent w0 T0 b0 s s') (h' : Ent w0 T0 b0 s' s'') : Ent w0 T0 b0 s s'' := fun H a w hH hr => h' H a w hH (h H a w hH hr)
/-! ### What a function hands back -/
def OutOk (T : Nat → Prop) (B : Nat) (w : World) (out : AV) (rows : List (Nat × Item)) (v : Value) : Prop :=
 ∃ (m : Nat → Value) (N : Nat), Rv ⟨w, allow (bs T) B m rows, m, N⟩ out v ∧
  (∀ i it, lk rows i = some it → i < N ∧ ItemOk ⟨w, allow (bs T) B m rows, m, N⟩ (B ≤ ·) (m i) it) ∧
  (∀ i j it jt b, lk rows i = some it → lk rows j = some jt → blk (m i) = some b → blk (m j) = some b → i = j)
def OutG (T0 : Bs) (B : Nat) (w : World) (out : AV) (rows : List (Nat × Item)) (v : Value) : Prop :=
 ∃ (m : Nat → Value) (N : Nat), Rv ⟨w, allow T0 B m rows, m, N⟩ out v ∧
  (∀ i it, lk rows i = some it → i < N ∧ ItemOk ⟨w, allow T0 B m rows, m, N⟩ (ownB T0 B) (m i) it) ∧
  (∀ i j it jt b, lk rows i = some it → lk rows j = some jt → blk (m i) = some b → blk (m j) = some b → i = j)
theorem ItemOk.own {c : Ctx} {O O' : Nat → Prop} (h : ∀ b, O b → O' b) {v : Value} {it : Item} (hi : ItemOk c O v it) : ItemOk c O' v it := by
 cases it with
 | row e r => obtain ⟨n, cells, hr, hn, ho, hO⟩ := hi; exact ⟨n, cells, hr, hn, ho, fun b hb => h b (hO b hb)⟩
 | box e cs => obtain ⟨g, vs, rfl, hg, hl, he⟩ := hi; exact ⟨g, vs, rfl, h g hg, hl, he⟩
 | map ks vs => obtain ⟨g, es, clock, rfl, hg, r⟩ := hi; exact ⟨g, es, clock, rfl, h g hg, r⟩
 | iter mp since seen => obtain ⟨g, q, sn, last, rfl, hg, r⟩ := hi; exact ⟨g, q, sn, last, rfl, h g hg, r⟩
 | siter t pos => obtain ⟨g, rfl, hg, r⟩ := hi; exact ⟨g, rfl, h g hg, r⟩
theorem ItemOk.blkOwn {c : Ctx} {O O' : Nat → Prop} {v : Value} {it : Item} (hi : ItemOk c O v it) (h : ∀ b, Fv.blk v = some b → O' b) : ItemOk c O' v it := by
 cases it with
 | row e r => obtain ⟨n, cells, hr, hn, ho, hO⟩ := hi; exact ⟨n, cells, hr, hn, ho, h⟩
 | box e cs => obtain ⟨g, vs, rfl, hg, hl, he⟩ := hi; exact ⟨g, vs, rfl, h g rfl, hl, he⟩
 | map ks vs => obtain ⟨g, es, clock, rfl, hg, r⟩ := hi; exact ⟨g, es, clock, rfl, h g rfl, r⟩
 | iter mp since seen => obtain ⟨g, q, sn, last, rfl, hg, r⟩ := hi; exact ⟨g, q, sn, last, rfl, h g rfl, r⟩
 | siter t pos => obtain ⟨g, rfl, hg, r⟩ := hi; exact ⟨g, rfl, h g rfl, r⟩
theorem lk_some {α : Type} : ∀ {l : List (Nat × α)} {q : Nat × α}, q ∈ l → ∃ v, lk l q.1 = some v
 |(j, x) :: l, q, h => by
  by_cases e : j = q.1
  ·exact ⟨x, by simp [lk, e]⟩
  ·cases List.mem_cons.1 h with
   | inl h => subst h; exact absurd rfl e
   | inr h => obtain ⟨v, hv⟩ := lk_some h; exact ⟨v, by simp [lk, e, hv]⟩
theorem OutG.out {T : Nat → Prop} {B : Nat} {w : World} {out : AV} {rows : List (Nat × Item)} {v : Value} (h : OutG (bs T) B w out rows v) : OutOk T B w out rows v := by
 obtain ⟨m, N, h1, h2, h3⟩ := h
 exact ⟨m, N, h1, fun i it hi => ⟨(h2 i it hi).1, ((h2 i it hi).2).own fun b hb => hb.resolve_right fun x => x.1⟩, h3⟩
def FnOk (P : Program) (f : Nat) (args : List AV) (out : AV) (rows : List (Nat × Item)) : Prop :=
 Enter P f ∧ ∀ (w : World) (T : Nat → Prop) (vals : List Value), GlOk P w → RvT ⟨w, T, fun _ => undef, 0⟩ args vals →
  Calls P f vals.toArray w fun e w' => ∃ v, e = .returned v ∧ BelowD w.heap.size w w' ∧ OutOk T w.heap.size w' out rows v
def argEnv : Nat → List AV → List (Nat × AV)
 | _, [] => []
 | k, x :: l => (k, x) :: argEnv (k + 1) l
def rets1 (P : Program) (s : S) (K : AV → Prop) : ResultVar → Prop
 | .tmp t => K (s.ev (.tmp t))
 | .cell t ty => match s.get t with
  | .ptr i off => match lk s.rows i with
   | some (.box _ cs) => ldCells P ty (cs.drop off) K
   | _ => False
  | _ => False
def rets (P : Program) (s : S) : List ResultVar → (List AV → Prop) → Prop
 | [], K => K []
 | x :: l, K => rets1 P s (fun v => rets P s l (fun vs => K (v :: vs))) x
def tupOf : List AV → AV
 | [x] => x
 | l => .tup l
def Ret (P : Program) (w0 : World) (T0 : Bs) (res : List ResultVar) (out : AV) (rows : List (Nat × Item)) (s : S) : Prop :=
 ∀ (a : Act) (w : World), Rep w0 T0 [] s a w → ∃ v, (∀ (fn : Func), fn.results = res.toArray → (results fn a.tmps).run P w = .ok v w) ∧ OutG T0 w0.heap.size w out rows v
def Post (P : Program) (w0 : World) (T0 : Bs) (res : List ResultVar) (out : AV) (rows : List (Nat × Item)) : Exit → S → Prop
 | .normal, s => Ret P w0 T0 res out rows s
 | .ret, s => Ret P w0 T0 res out rows s
 | _, _ => False
@[congr] theorem Ret_congr {P : Program} {res : List ResultVar} {out : AV} {rows : List (Nat × Item)} {s s' : S} (h : s = s') : Ret P w0 T0 res out rows s = Ret P w0 T0 res out rows s' := by rw [h]
def resF (tmps : Array Value) : ResultVar → Sem Value
 | .tmp t => pure (tmps.getD t undef)
 | .cell a t => do loadVar t (← asAddr (tmps.getD a undef))
theorem rets_run {P : Program} {H : List (AV × Value)} {s : S} {a : Act} {w : World} {m : Nat → Value} (hm : RepM w0 T0 H s a w m) : ∀ {res : List ResultVar} {K : List AV → Prop}, rets P s res K →
  ∃ l vs, K l ∧ (res.mapM (resF a.tmps)).run P w = .ok vs w ∧ RvT (ctxOf T0 w0.heap.size m s w) l vs
 | [], K, h => ⟨[], [], h, rfl, .nil⟩
 | x :: res, K, h => by
  have key : ∃ v u, rets P s res (fun vs => K (v :: vs)) ∧ (resF a.tmps x).run P w = .ok u w ∧ Rv (ctxOf T0 w0.heap.size m s w) v u := by
   unfold rets at h
   cases x with
   | tmp t => exact ⟨_, _, h, rfl, hm.ev (.tmp t) trivial⟩
   | cell t ty =>
    simp only [rets1] at h
    split at h
    ·rename_i i off hg
     have hl : lk s.env t = some (.ptr i off) := by
      simp only [S.get] at hg
      cases hl : lk s.env t with
      | none => rw [hl] at hg; cases hg
      | some y => rw [hl] at hg; exact congrArg some hg
     have hp := hm.env t _ hl
     split at h
     ·rename_i e cs hi
      generalize hvt : a.tmps.getD t undef = vt at hp
      cases hp with
      | ptr _ _ g _ hg =>
       obtain ⟨g', vs, hv, _, hl, hh⟩ := (hm.rows i _ hi).2
       have hmi : blk (m i) = some g := hg
       rw [hv] at hmi; cases hmi
       obtain ⟨r, v, hk, hr, hrv⟩ := ldCells_sound (c := ctxOf T0 w0.heap.size m s w) (a := ⟨g', off, none⟩) h (hl.drop off) fun j u hu => by
        rw [Addr.add_lit]
        rw [List.getElem?_drop] at hu
        have := cell_of_row w g' (off + j) vs.toArray e (0, 0) hh
        show w.cell? _ = _
        rw [this]; simpa using hu
       refine ⟨r, v, hk, ?_, hrv⟩
       have hr' : (loadVar ty ⟨g', off, none⟩).run P w = .ok v w := hr
       simp [resF, hvt, asAddr, hr']
     ·exact h.elim
    ·exact h.elim
  obtain ⟨v, u, hk, hr, hv⟩ := key
  obtain ⟨l, vs, hk', hr', hvs⟩ := rets_run hm hk
  refine ⟨v :: l, u :: vs, hk', ?_, .cons _ _ _ _ hv hvs⟩
  rw [List.mapM_cons]
  simp [Sem.run_bind, hr, hr', Result.andThen]
def tupV : List Value → Value
 | [v] => v
 | l => .tuple l.toArray
theorem results_eq (fn : Func) (tmps : Array Value) : results fn tmps = (fn.results.mapM (resF tmps) >>= fun vs => pure (if h : vs.size = 1 then vs[0] else .tuple vs)) := by
 unfold results
 congr 1
theorem results_list {P : Program} {fn : Func} {res : List ResultVar} (h : fn.results = res.toArray) (tmps : Array Value) {w : World} {vs : List Value} (hr : (res.mapM (resF tmps)).run P w = .ok vs w) :
  (results fn tmps).run P w = .ok (tupV vs) w := by
 rw [results_eq, h]
 have e2 := List.mapM_toArray (f := resF tmps) (l := res)
 rw [e2]
 simp only [Sem.run_bind, Sem.run_map, hr, Result.andThen]
 match vs with
 | [] => rfl
 | [v] => rfl
 | v :: v' :: l => simp [tupV]
theorem Ret.of {P : Program} (l : List (Nat × Nat)) (N : Nat) {res : List ResultVar} {out : AV} {rows : List (Nat × Item)} {s : S} (h : rets P s res (fun vs => tupOf vs = ren (pm l) out)) (hb : Fv.below N out = true) (hr : subOk (pm l) s.rows N rows) : Ret P w0 T0 res out rows s := by
 rintro a w ⟨m, hm⟩
 obtain ⟨vs, us, he, hrun, hvs⟩ := rets_run hm h
 have hrv : Rv (ctxOf T0 w0.heap.size m s w) (tupOf vs) (tupV us) := by
  cases hvs with
  | nil => exact .tup _ _ .nil
  | cons x v l us hx ht =>
   cases ht with
   | nil => exact hx
   | cons x' v' l' us' hx' ht' => exact .tup _ _ (.cons _ _ _ _ hx (.cons _ _ _ _ hx' ht'))
 have hren : CtxRen (pm l) (ctxOf T0 w0.heap.size m s w) ⟨w, allow T0 w0.heap.size (fun i => m (pm l i)) rows, fun i => m (pm l i), N⟩ :=
  {m := fun _ _ => rfl,
   t := by
    intro b ⟨h1, h2⟩ _
    refine ⟨⟨h1, fun i it hi e => ?_⟩, rfl⟩
    obtain ⟨_, h3, _⟩ := subOk_mem hr i it (lk_mem hi)
    exact h2 _ _ h3 e }
 refine ⟨_, fun fn hf => results_list hf a.tmps hrun, fun i => m (pm l i), N, Rv.ren hren out hb (by rw [← he]; exact hrv), fun i it hi => ?_, fun i j it jt b hi hj hbi hbj => ?_⟩
 ·obtain ⟨h1, h2, h3⟩ := subOk_mem hr i it (lk_mem hi)
  exact ⟨h1, ItemOk.ren hren rfl h3 (hm.rows _ _ h2).2⟩
 ·obtain ⟨_, h2, _⟩ := subOk_mem hr i it (lk_mem hi)
  obtain ⟨_, h2', _⟩ := subOk_mem hr j jt (lk_mem hj)
  exact subOk_inj hr i j it jt (lk_mem hi) (lk_mem hj) (hm.sep _ _ _ _ b h2 h2' hbi hbj)
theorem argEnv_rv {c : Ctx} : ∀ {args : List AV} {vals : List Value} (k : Nat) (pre : List Value), pre.length = k → RvT c args vals → ∀ r v, lk (argEnv k args) r = some v → ∃ u, (pre ++ vals)[r]? = some u ∧ Rv c v u
 | _, _, k, pre, hk, .nil, r, v, h => by simp [argEnv, lk] at h
 | _, _, k, pre, hk, .cons x u l vs hx ht, r, v, h => by
  simp only [argEnv, lk] at h
  split at h
  ·rename_i e; subst e; cases h
   exact ⟨u, by rw [List.getElem?_append_right (by omega)]; simp [hk], hx⟩
  ·obtain ⟨u', h1, h2⟩ := argEnv_rv (k + 1) (pre ++ [u]) (by simp [hk]) ht r v h
   exact ⟨u', by simpa using h1, h2⟩
theorem FnOk.of_run {f : Nat} {fn : Func} {c : Code} {args : List AV} {out : AV} {rows : List (Nat × Item)} (hf : P.funcs[f]? = some fn) (hb : fn.body = some c)
  (hnm : (fn.name == "runtime.NumGoroutine") = false) (hn : args.length ≤ fn.ntmps) (res : List ResultVar) (hres : fn.results = res.toArray)
  (h : ∀ (w0 : World) (T0 : Bs) [GlB P w0 T0], VcRun P w0 T0 0 c ⟨fn.ntmps, argEnv 0 args, [], 0⟩ (Post P w0 T0 res out rows)) : FnOk P f args out rows := by
 refine ⟨⟨fn, hf, by rw [hb]; rfl, hnm⟩, fun w T vals hgl hv => ?_⟩
 haveI : GlB P w (bs T) := ⟨hgl, fun _ _ _ h => h.1⟩
 refine calls_of_wp hf hb ?_
 have hlen := hv.length
 have hle : CtxLe (⟨w, T, fun _ => undef, 0⟩ : Ctx) (ctxOf (bs T) w.heap.size (fun _ => undef) ⟨fn.ntmps, argEnv 0 args, [], 0⟩ w) :=
  ⟨Nat.le_refl _, fun _ _ => rfl, fun b hb _ => ⟨⟨.inr hb, fun i it hi => by simp [lk] at hi⟩, rfl⟩⟩
 have hrep : RepM w (bs T) [] ⟨fn.ntmps, argEnv 0 args, [], 0⟩ { tmps := vals.toArray ++ Array.replicate (fn.ntmps - vals.toArray.size) undef, defers := [] } w (fun _ => undef) :=
  {size := by simp; omega, nodef := rfl, below := BelowG.refl _ _,
   env := by
    intro r v hr
    obtain ⟨u, h1, h2⟩ := argEnv_rv 0 [] rfl hv r v hr
    have e : ((vals.toArray ++ Array.replicate (fn.ntmps - vals.toArray.size) undef).getD r undef) = u := by
     have h1' : vals[r]? = some u := by simpa using h1
     have hlt : r < vals.length := (List.getElem?_eq_some_iff.1 h1').1
     rw [Array.getD_eq_getD_getElem?, Array.getElem?_append_left (by simpa using hlt)]
     simp [h1']
    rw [e]; exact h2.mono hle,
   held := fun p hp => absurd hp (by simp), rows := fun i it hi => absurd hi (by simp [lk]), sep := fun i j it jt b hi => absurd hi (by simp [lk]) }
 refine wp_mono (h w (bs T) [] _ w (fun p hp => absurd hp (by simp)) ⟨_, hrep⟩) ?_
 rintro e a w' ⟨s', hq, hr⟩
 have fin : Ret P w (bs T) res out rows s' → a.defers = [] ∧ ∃ v, (results fn a.tmps).run P w' = .ok v w' ∧ ∃ v', Ending.returned v = .returned v' ∧ BelowD w.heap.size w w' ∧ OutOk T w.heap.size w' out rows v' := by
  intro hret
  obtain ⟨v, hv, hout⟩ := hret a w' hr
  obtain ⟨m, hm⟩ := hr
  exact ⟨hm.nodef, v, hv fn hres, v, rfl, (hm.below.mono fun b hb => hb.1).below, hout.out⟩
 cases e with
 | normal => exact fin hq
 | ret => exact fin hq
 | _ => exact hq.elim
theorem FnOk.of_vc {f : Nat} {fn : Func} {c : Code} {args : List AV} {out : AV} {rows : List (Nat × Item)} (hf : P.funcs[f]? = some fn) (hb : fn.body = some c)
  (hnm : (fn.name == "runtime.NumGoroutine") = false) (hn : args.length ≤ fn.ntmps) (res : List ResultVar) (hres : fn.results = res.toArray)
  (h : ∀ (w0 : World) (T0 : Bs) [GlB P w0 T0], vcCode P w0 T0 0 c (Post P w0 T0 res out rows) ⟨fn.ntmps, argEnv 0 args, [], 0⟩) : FnOk P f args out rows :=
 .of_run hf hb hnm hn res hres fun w0 T0 => .of (h w0 T0)
end
end Go.Fv
