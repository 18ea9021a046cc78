/-
  Operations that touch no memory of the call's own: arithmetic, comparisons, strings, parts.
-/
import Derived.Test.YtfebnhmnkgnofaaDoorFvOp
namespace Go.Fv
open Go.RowKit
set_option linter.unusedVariables false
set_option linter.unusedSimpArgs false
set_option linter.unnecessarySimpa false

def bitsI (op : BinOp) (k : IntKind) (a b : Int) : Int :=
  let x := BitVec.ofInt k.bits a
  let y := BitVec.ofInt k.bits b
  match op with
  | .and => k.wrap ((x &&& y).toNat)
  | .or => k.wrap ((x ||| y).toNat)
  | .xor => k.wrap ((x ^^^ y).toNat)
  | _ => k.wrap ((x &&& ~~~y).toNat)
theorem InK_bitsI (op : BinOp) (k : IntKind) (a b : Int) : InK k (bitsI op k a b) := by
  unfold bitsI; dsimp only; split <;> exact InK_wrap _ _

def shlI (k : IntKind) (a b : Int) : Int := a * 2 ^ (min b.toNat k.bits)
def shrI (k : IntKind) (a b : Int) : Int := a.fdiv (2 ^ (min b.toNat k.bits))

theorem tmod_range {k : IntKind} {a b : Int} (h : InK k a) : InK k (a.tmod b) := by
  obtain ⟨h1, h2⟩ := h
  have hz : k.min ≤ 0 := by cases k <;> simp [IntKind.min, IntKind.signed, IntKind.bits]
  have hx : 0 ≤ k.max := by cases k <;> simp [IntKind.max, IntKind.signed, IntKind.bits]
  rcases Int.le_total 0 a with ha | ha
  · have e : 0 ≤ a.tmod b := Int.tmod_nonneg _ ha
    have l : a.tmod b ≤ a := by
      have := Int.natAbs_tmod a b
      have h3 : (a.tmod b).natAbs ≤ a.natAbs := by rw [this]; exact Nat.mod_le _ _
      omega
    exact ⟨by omega, by omega⟩
  · have e : (-a).tmod b = -(a.tmod b) := Int.neg_tmod a b
    have e1 : 0 ≤ (-a).tmod b := Int.tmod_nonneg _ (by omega)
    have l : (-a).tmod b ≤ -a := by
      have := Int.natAbs_tmod (-a) b
      have h3 : ((-a).tmod b).natAbs ≤ (-a).natAbs := by rw [this]; exact Nat.mod_le _ _
      omega
    exact ⟨by omega, by omega⟩

theorem shr_range {k : IntKind} {a b : Int} (h : InK k a) : InK k (shrI k a b) := by
  obtain ⟨h1, h2⟩ := h
  have hz : k.min ≤ 0 := by cases k <;> simp [IntKind.min, IntKind.signed, IntKind.bits]
  have hx : 0 ≤ k.max := by cases k <;> simp [IntKind.max, IntKind.signed, IntKind.bits]
  unfold shrI
  have hp : (0 : Int) < 2 ^ (min b.toNat k.bits) := Int.pow_pos (by omega)
  have hp1 : (1 : Int) ≤ 2 ^ (min b.toNat k.bits) := by omega
  rw [Int.fdiv_eq_ediv_of_nonneg _ (by omega)]
  generalize (2 : Int) ^ (min b.toNat k.bits) = p at *
  rcases Int.le_total 0 a with ha | ha
  · have := Int.ediv_nonneg ha (by omega : 0 ≤ p)
    have := Int.ediv_le_self p ha
    exact ⟨by omega, by omega⟩
  · have h3 : a / p ≤ 0 := by
      rcases Int.lt_or_le 0 (a / p) with hh | hh
      · have := Int.mul_ediv_self_le (x := a) (k := p) (by omega)
        have h5 : p * (a / p) ≥ p * 1 := Int.mul_le_mul_of_nonneg_left (by omega) (by omega)
        omega
      · exact hh
    have h4 : a ≤ a / p := by
      have h6 : a / p ≥ a := by
        rw [ge_iff_le, Int.le_ediv_iff_mul_le hp]
        have := Int.mul_le_mul_of_nonpos_left ha hp1
        omega
      exact h6
    exact ⟨by omega, by omega⟩

def vcBin (P : Program) (op : BinOp) (t : TypeId) (x y : AV) (K : AV → Prop) : Prop :=
  match x, y with
  | .int k a, .int k' b =>
    match op with
    | .shl => Chk (0 ≤ b) (LetW k (shlI k a b) fun n => K (.int k n))
    | .shr => Chk (0 ≤ b) (K (.int k (shrI k a b)))
    | .add => Chk (k = k') (LetW k (a + b) fun n => K (.int k n))
    | .sub => Chk (k = k') (LetW k (a - b) fun n => K (.int k n))
    | .mul => Chk (k = k') (LetW k (a * b) fun n => K (.int k n))
    | .quo => Chk (k = k' ∧ b ≠ 0) (LetW k (a.tdiv b) fun n => K (.int k n))
    | .rem => Chk (k = k' ∧ b ≠ 0) (K (.int k (a.tmod b)))
    | .and => Chk (k = k') (K (.int k (bitsI .and k a b)))
    | .or => Chk (k = k') (K (.int k (bitsI .or k a b)))
    | .xor => Chk (k = k') (K (.int k (bitsI .xor k a b)))
    | .andNot => Chk (k = k') (K (.int k (bitsI .andNot k a b)))
    | .eql => Chk (k = k') (K (.bool (decide (a = b))))
    | .neq => Chk (k = k') (K (.bool (decide (¬ a = b))))
    | .lss => Chk (k = k') (K (.bool (decide (a < b))))
    | .leq => Chk (k = k') (K (.bool (decide (a ≤ b))))
    | .gtr => Chk (k = k') (K (.bool (decide (b < a))))
    | .geq => Chk (k = k') (K (.bool (decide (b ≤ a))))
  | .str a, .str b =>
    match op with
    | .add => Chk (a.length + b.length ≤ 9223372036854775807) (K (.str (a ++ b)))
    | .eql => K (.bool (decide (a = b)))
    | .neq => K (.bool (decide (¬ a = b)))
    | .lss => K (.bool (Op.bytesLess a b))
    | .leq => K (.bool (Op.bytesLess a b || decide (a = b)))
    | .gtr => K (.bool (!(Op.bytesLess a b || decide (a = b))))
    | .geq => K (.bool (!Op.bytesLess a b))
    | _ => False
  | .bool a, .bool b =>
    match op with
    | .eql => Chk (P.underlying t = some .bool) (K (.bool (decide (a = b))))
    | .neq => Chk (P.underlying t = some .bool) (K (.bool (decide (¬ a = b))))
    | _ => False
  | _, _ => False

section
variable {P : Program} {w0 : World} {T0 : Nat → Prop} {o : Oper} {s : S} {K : AV → S → Prop}

theorem eqGuard_plain (op : BinOp) (t : TypeId) (x y : Operand) (a b : Value) (w : World) (h1 : ∀ c, a ≠ .agg c) (h2 : a ≠ .nilIface) : (eqGuard op t x y a b).run P w = .ok () w := by
  have hh : ∀ q : Bool, Sem.run P (do
      if (!q) = true then return
      match a, b with
      | .nilIface, .nilIface =>
        if (x matches .const _) || (y matches .const _) then return
        if ← Op.eqGuardIn Op.maxDepth t a b then unsupported (.noEntry "binop/eql: two nil values of an interface type with methods, neither of them the literal nil")
      | .agg _, .agg _ =>
        if !(← program).eqGuardType (← program).depth t then return
        if ← Op.eqGuardIn Op.maxDepth t a b then unsupported (.noEntry "binop/eql: two nil values of an interface type with methods, in a part of a struct or an array")
      | _, _ => pure ()) w = .ok () w := by
    intro q
    cases q
    · rfl
    · cases a <;> first | exact absurd rfl h2 | exact absurd rfl (h1 _) | (cases b <;> rfl)
  cases op <;> first | exact hh false | exact hh true

theorem bin_run (op : BinOp) (t t' : TypeId) (x y : Operand) (ho : o.op = .binOp op t x y t') (ρ : Operand → Value) (w : World) (v : Value)
    (h1 : ∀ c, ρ x ≠ .agg c) (h2 : ρ x ≠ .nilIface) (hr : (binOp op t (ρ x) (ρ y)).run P w = .ok v w) : (execOp ρ o).run P w = .ok (.value v) w := by
  unfold execOp
  rw [ho]
  simp [Sem.run_bind, eqGuard_plain op t x y (ρ x) (ρ y) w h1 h2, hr, Result.andThen]

theorem vcBin_still {op : BinOp} {t t' : TypeId} {x y : Operand} (ho : o.op = .binOp op t x y t') (hx : opndOk x) (hy : opndOk y)
    (h : vcBin P op t (s.ev x) (s.ev y) (fun r => K r s)) : StillSem P w0 T0 o s K := by
  intro H a w m hm
  have rx := hm.ev x hx
  have ry := hm.ev y hy
  revert h
  generalize s.ev x = ax at *
  generalize s.ev y = ay at *
  generalize hvx : a.eval x = vx at *
  generalize hvy : a.eval y = vy at *
  intro h
  have fin : ∀ (r : AV) (v : Value), K r s → (binOp op t vx vy).run P w = .ok v w → Rv (ctxOf T0 w0.heap.size m s w) r v → (∀ c, vx ≠ .agg c) → vx ≠ .nilIface →
      ∃ r v, K r s ∧ (execOp a.eval o).run P w = .ok (.value v) w ∧ Rv (ctxOf T0 w0.heap.size m s w) r v := by
    intro r v hk hr hv h1 h2
    exact ⟨r, v, hk, bin_run op t t' x y ho a.eval w v (by rw [hvx]; exact h1) (by rw [hvx]; exact h2) (by rw [hvx, hvy]; exact hr), hv⟩
  cases rx with
  | int k p hp =>
    cases ry with
    | int k' q hq =>
      cases op <;> simp only [vcBin] at h
      case add => obtain ⟨rfl, h⟩ := h; exact fin _ _ (h _ rfl (InK_wrap _ _)) (by simp [binOp, Op.intArith]) (.int _ _ (InK_wrap _ _)) (by simp) (by simp)
      case sub => obtain ⟨rfl, h⟩ := h; exact fin _ _ (h _ rfl (InK_wrap _ _)) (by simp [binOp, Op.intArith]) (.int _ _ (InK_wrap _ _)) (by simp) (by simp)
      case mul => obtain ⟨rfl, h⟩ := h; exact fin _ _ (h _ rfl (InK_wrap _ _)) (by simp [binOp, Op.intArith]) (.int _ _ (InK_wrap _ _)) (by simp) (by simp)
      case quo => obtain ⟨⟨rfl, hb⟩, h⟩ := h; exact fin _ _ (h _ rfl (InK_wrap _ _)) (by simp [binOp, Op.intDiv, hb]) (.int _ _ (InK_wrap _ _)) (by simp) (by simp)
      case rem => obtain ⟨⟨rfl, hb⟩, h⟩ := h; exact fin _ _ h (by simp [binOp, Op.intDiv, hb]) (.int _ _ (tmod_range hp)) (by simp) (by simp)
      case and => obtain ⟨rfl, h⟩ := h; exact fin _ _ h (by simp [binOp, Op.intBits, bitsI]) (.int _ _ (InK_bitsI _ _ _ _)) (by simp) (by simp)
      case or => obtain ⟨rfl, h⟩ := h; exact fin _ _ h (by simp [binOp, Op.intBits, bitsI]) (.int _ _ (InK_bitsI _ _ _ _)) (by simp) (by simp)
      case xor => obtain ⟨rfl, h⟩ := h; exact fin _ _ h (by simp [binOp, Op.intBits, bitsI]) (.int _ _ (InK_bitsI _ _ _ _)) (by simp) (by simp)
      case andNot => obtain ⟨rfl, h⟩ := h; exact fin _ _ h (by simp [binOp, Op.intBits, bitsI]) (.int _ _ (InK_bitsI _ _ _ _)) (by simp) (by simp)
      case shl =>
        obtain ⟨hb, h⟩ := h
        have hb' : ¬ q < 0 := by omega
        exact fin _ _ (h _ rfl (InK_wrap _ _)) (by simp [binOp, Op.shift, hb', shlI]) (.int _ _ (InK_wrap _ _)) (by simp) (by simp)
      case shr =>
        obtain ⟨hb, h⟩ := h
        have hb' : ¬ q < 0 := by omega
        exact fin _ _ h (by simp [binOp, Op.shift, hb', shrI]) (.int _ _ (shr_range hp)) (by simp) (by simp)
      case eql => obtain ⟨rfl, h⟩ := h; exact fin _ _ h (by simp [binOp, Op.intCmp]; rfl) (.bool _) (by simp) (by simp)
      case neq =>
        obtain ⟨rfl, h⟩ := h
        exact fin _ _ h (by simp [binOp, Op.intCmp, bne]; rfl) (.bool _) (by simp) (by simp)
      case lss => obtain ⟨rfl, h⟩ := h; exact fin _ _ h (by simp [binOp, Op.intCmp]) (.bool _) (by simp) (by simp)
      case leq => obtain ⟨rfl, h⟩ := h; exact fin _ _ h (by simp [binOp, Op.intCmp]) (.bool _) (by simp) (by simp)
      case gtr => obtain ⟨rfl, h⟩ := h; exact fin _ _ h (by simp [binOp, Op.intCmp]) (.bool _) (by simp) (by simp)
      case geq => obtain ⟨rfl, h⟩ := h; exact fin _ _ h (by simp [binOp, Op.intCmp]) (.bool _) (by simp) (by simp)
    | _ => exact absurd h (by cases op <;> simp [vcBin])
  | str p hp =>
    cases ry with
    | str q hq =>
      have hs : ∀ l : List UInt8, (ByteArray.mk l.toArray).size = l.length := fun l => by simp [ByteArray.size]
      have hbq : (p == q) = decide (p = q) := by rw [Bool.eq_iff_iff]; simp
      cases op <;> simp only [vcBin] at h
      case add =>
        obtain ⟨hl, h⟩ := h
        refine fin _ (.string ⟨(p ++ q).toArray⟩) h ?_ (.str _ (by simp only [List.length_append, maxLen]; omega)) (by simp) (by simp)
        have h1 : ¬ (((ByteArray.mk p.toArray).size + (ByteArray.mk q.toArray).size : Nat) : Int) > IntKind.i64.max := by
          rw [hs, hs]; simp [IntKind.max, IntKind.signed, IntKind.bits]; omega
        simp only [binOp, Op.stringOp]
        rw [if_neg h1]
        have : (ByteArray.mk p.toArray ++ ByteArray.mk q.toArray) = ⟨(p ++ q).toArray⟩ := by
          apply ByteArray.ext
          simp
        rw [this]; rfl
      case eql => exact fin _ _ h (by simp [binOp, Op.stringOp, hbq]) (.bool _) (by simp) (by simp)
      case neq => exact fin _ _ h (by simp [binOp, Op.stringOp, hbq]) (.bool _) (by simp) (by simp)
      case lss => exact fin _ _ h (by simp [binOp, Op.stringOp]) (.bool _) (by simp) (by simp)
      case leq => exact fin _ _ h (by simp [binOp, Op.stringOp, hbq]) (.bool _) (by simp) (by simp)
      case gtr => exact fin _ _ h (by simp [binOp, Op.stringOp, hbq]) (.bool _) (by simp) (by simp)
      case geq => exact fin _ _ h (by simp [binOp, Op.stringOp]) (.bool _) (by simp) (by simp)
      all_goals exact absurd h (by simp)
    | _ => exact absurd h (by cases op <;> simp [vcBin])
  | bool p =>
    cases ry with
    | bool q =>
      cases op <;> simp only [vcBin] at h
      case eql => obtain ⟨ht, h⟩ := h; exact fin _ _ h (by have := run_eql_bool w t p q ht; rwa [show (decide (p = q)) = (p == q) from by cases p <;> cases q <;> rfl]) (.bool _) (by simp) (by simp)
      case neq => obtain ⟨ht, h⟩ := h; exact fin _ _ h (by have := run_neq_bool w t p q ht; rwa [show (decide (¬ p = q)) = (!(p == q)) from by cases p <;> cases q <;> rfl]) (.bool _) (by simp) (by simp)
      all_goals exact absurd h (by simp)
    | _ => exact absurd h (by cases op <;> simp [vcBin])
  | _ => exact absurd h (by cases op <;> simp [vcBin])
theorem vcBin_sound {op : BinOp} {t t' : TypeId} {x y : Operand} (ho : o.op = .binOp op t x y t') (hx : opndOk x) (hy : opndOk y)
    (h : vcBin P op t (s.ev x) (s.ev y) (fun r => K r s)) : OpSem P w0 T0 o s K := (vcBin_still ho hx hy h).op

end
end Go.Fv
