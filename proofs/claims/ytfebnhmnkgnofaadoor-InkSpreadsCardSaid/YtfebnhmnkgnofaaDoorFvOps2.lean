/-
  Loads, stores, addresses of parts.
-/
import Derived.Test.YtfebnhmnkgnofaaDoorFvOps
namespace Go.Fv
open Go.RowKit
set_option linter.unusedVariables false
set_option linter.unusedSimpArgs false
set_option linter.unnecessarySimpa false

def spl : List AV → Nat → List AV → List AV
  | bs, _, [] => bs
  | bs, off, c :: cs => spl (bs.set off c) (off + 1) cs
theorem spl_length : ∀ (cs bs : List AV) (off : Nat), (spl bs off cs).length = bs.length
  | [], _, _ => rfl
  | c :: cs, bs, off => by simp [spl, spl_length cs]
def splV : List Value → Nat → List Value → List Value
  | bs, _, [] => bs
  | bs, off, c :: cs => splV (bs.set off c) (off + 1) cs
theorem splV_eq : ∀ (cs bs : List Value) (off : Nat), off + cs.length ≤ bs.length → splV bs off cs = bs.take off ++ cs ++ bs.drop (off + cs.length)
  | [], bs, off, _ => by simp [splV]
  | c :: cs, bs, off, h => by
    simp only [List.length_cons] at h
    rw [splV, splV_eq cs _ _ (by simp; omega), List.take_set, List.drop_set, if_pos (by omega)]
    rw [List.take_succ_eq_append_getElem (by omega), List.set_append_right _ _ (by simp; omega)]
    have e : off - (List.take off bs).length = 0 := by simp; omega
    rw [e]
    simp only [List.set_cons_zero, List.length_cons, List.append_assoc, List.cons_append, List.nil_append]
    have e2 : off + 1 + cs.length = off + (cs.length + 1) := by omega
    rw [e2]
theorem RvL.set {c : Ctx} : ∀ {l : List AV} {vs : List Value} (i : Nat) {x : AV} {v : Value}, RvL c l vs → Rv c x v → v.oneCell' = true → RvL c (l.set i x) (vs.set i v)
  | _, _, _, _, _, .nil, _, _ => .nil
  | _, _, 0, _, _, .cons _ _ _ _ _ _ t, hx, h1 => .cons _ _ _ _ hx h1 t
  | _, _, i + 1, _, _, .cons y u l vs h h1' t, hx, h1 => .cons y u _ _ h h1' (RvL.set i t hx h1)
theorem RvL.spl {c : Ctx} : ∀ {cs : List AV} {us : List Value} {l : List AV} {vs : List Value} (off : Nat), RvL c l vs → RvL c cs us → RvL c (Fv.spl l off cs) (splV vs off us)
  | _, _, _, _, _, h, .nil => h
  | _, _, _, _, off, h, .cons x v cs us hx h1 t => RvL.spl (off + 1) (h.set off hx h1) t

def setElem (r : RowV) (i off : Nat) (cs : List AV) : Option RowV :=
  match r with
  | .bools l => match cs with
    | [.bool b] => if off = 0 then some (.bools (l.set i b)) else none
    | _ => none
  | .ints k l => match cs with
    | [.int k' n] => if off = 0 ∧ k = k' then some (.ints k (l.set i n)) else none
    | _ => none
  | .strs l => match cs with
    | [.str t] => if off = 0 then some (.strs (l.set i t)) else none
    | _ => none
  | .objs sz l => if off + cs.length ≤ sz then some (.objs sz (l.set i (spl (l.getD i []) off cs))) else none

section
variable {P : Program} {w0 : World} {T0 : Nat → Prop} {o : Oper} {s : S} {K : AV → S → Prop}

def vcLoad (P : Program) (t : TypeId) (x : Operand) (s : S) (K : AV → S → Prop) : Prop :=
  match s.ev x with
  | .cell cs => ldCells P t cs (fun v => K v s)
  | .ptr i off => match lk s.rows i with
    | some (.box _ cs) => ldCells P t (cs.drop off) (fun v => K v s)
    | _ => False
  | .elt i sz idx off => match lk s.rows i with
    | some (.row _ r) => Chk (idx < r.len ∧ sz = r.sz) (ldCells P t ((elemA r idx).drop off) (fun v => K v s))
    | _ => False
  | _ => False

/-- The cells of an owned row. -/
theorem own_cells {w : World} {B : Nat} {e : TypeId} {size : Nat} {v : Value} {n : Nat} {xs : List Value} (h : w.ownsRow B e size v n xs) {g : Nat} (hg : blk v = some g) :
    ∀ j u, xs[j]? = some u → w.cell? ⟨g, j, none⟩ = some u := by
  intro j u hu
  have := h.cells (g := g) (by
    rcases h.2 with ⟨rfl, _⟩ | ⟨g', cap, cur, rfl, _⟩
    · cases hg
    · exact hg) j u hu
  simpa [Addr.add_lit] using this

theorem vcLoad_still {t : TypeId} {x : Operand} (ho : o.op = .load t x) (hx : opndOk x) (h : vcLoad P t x s K) : StillSem P w0 T0 o s K := by
  unfold vcLoad at h
  intro H a w m hm
  have rx := hm.ev x hx
  revert h rx
  generalize s.ev x = ax
  generalize hvx : a.eval x = vx
  intro h rx
  have fin : ∀ (ad : Addr) (cs : List AV) (vs : List Value), vx = .pointer (some ad) → ldCells P t cs (fun v => K v s) → RvL (ctxOf T0 w0.heap.size m s w) cs vs →
      (∀ j u, vs[j]? = some u → w.cell? (ad.add j) = some u) → ∃ r v, K r s ∧ (execOp a.eval o).run P w = .ok (.value v) w ∧ Rv (ctxOf T0 w0.heap.size m s w) r v := by
    intro ad cs vs he hl hv hc
    obtain ⟨r, v, hk, hr, hrv⟩ := ldCells_sound (c := ctxOf T0 w0.heap.size m s w) hl hv hc
    refine ⟨r, v, hk, ?_, hrv⟩
    have hr' : (loadVar t ad).run P w = .ok v w := hr
    unfold execOp; rw [ho]
    simp [hvx, he, Instr.loadAt, Instr.sureAddr, hr']
  cases ax with
  | cell cs =>
    cases rx with
    | cell _ vs ad hl hid hs => exact fin ad cs vs rfl h hl hs.2.2
  | ptr i off =>
    dsimp only at h
    cases hi : lk s.rows i with
    | none => rw [hi] at h; exact h.elim
    | some it =>
      rw [hi] at h
      cases it with
      | row e r => exact h.elim
      | box e cs =>
        dsimp only at h
        cases rx with
        | ptr _ _ g _ hg =>
          obtain ⟨g', vs, hv, _, hl, hh⟩ := (hm.rows i _ hi).2
          have hmi : blk (m i) = some g := hg
          rw [hv] at hmi; cases hmi
          refine fin _ _ (vs.drop off) rfl h (hl.drop off) fun j u hu => ?_
          rw [Addr.add_lit]
          rw [List.getElem?_drop] at hu
          have := cell_of_row w g' (off + j) vs.toArray e (0, 0) hh
          rw [this]; simpa using hu
  | elt i sz idx off =>
    dsimp only at h
    cases hi : lk s.rows i with
    | none => rw [hi] at h; exact h.elim
    | some it =>
      rw [hi] at h
      cases it with
      | box e cs => exact h.elim
      | row e r =>
        dsimp only at h
        obtain ⟨⟨hlt, rfl⟩, h⟩ := h
        cases rx with
        | elt _ _ _ _ g _ hg =>
          obtain ⟨n, cells, hr, hn, how⟩ := (hm.rows i _ hi).2
          have he := (hr.elem hlt).drop off
          refine fin _ _ _ rfl h he fun j u hu => ?_
          rw [Addr.add_lit]
          rw [List.getElem?_drop, List.getElem?_take] at hu
          split at hu
          · rw [List.getElem?_drop] at hu
            have := own_cells how hg _ _ hu
            have e : idx * r.sz + off + j = idx * r.sz + (off + j) := by omega
            rw [e]; exact this
          · cases hu
  | _ => exact h.elim
theorem vcLoad_sound {t : TypeId} {x : Operand} (ho : o.op = .load t x) (hx : opndOk x) (h : vcLoad P t x s K) : OpSem P w0 T0 o s K := (vcLoad_still ho hx h).op

def vcNil (x : Operand) (s : S) (K : AV → S → Prop) : Prop :=
  match s.ev x with
  | .cell cs => K (.cell cs) s
  | .ptr i off => K (.ptr i off) s
  | .elt i sz x off => K (.elt i sz x off) s
  | .fn f cs => K (.fn f cs) s
  | _ => False
theorem vcNil_still {x : Operand} (ho : o.op = .nilCheck x) (hx : opndOk x) (h : vcNil x s K) : StillSem P w0 T0 o s K := by
  unfold vcNil at h
  intro H a w m hm
  have rx := hm.ev x hx
  revert h rx
  generalize s.ev x = ax
  generalize hvx : a.eval x = vx
  intro h rx
  have fin : ∀ r, K r s → Rv (ctxOf T0 w0.heap.size m s w) r vx → ((∃ ad, vx = .pointer (some ad)) ∨ ∃ f cs, vx = .func (.func f) #[] cs) → ∃ r v, K r s ∧ (execOp a.eval o).run P w = .ok (.value v) w ∧ Rv (ctxOf T0 w0.heap.size m s w) r v := by
    intro r hk hr hp
    refine ⟨r, vx, hk, ?_, hr⟩
    unfold execOp; rw [ho]
    rcases hp with ⟨ad, rfl⟩ | ⟨f, cs, rfl⟩ <;> simp [hvx]
  cases ax with
  | cell cs => have rx' := rx; cases rx with | cell _ vs ad hl hid hs => exact fin _ h rx' (.inl ⟨ad, rfl⟩)
  | ptr i off => have rx' := rx; cases rx with | ptr _ _ g _ hg => exact fin _ h rx' (.inl ⟨_, rfl⟩)
  | elt i sz idx off => have rx' := rx; cases rx with | elt _ _ _ _ g _ hg => exact fin _ h rx' (.inl ⟨_, rfl⟩)
  | fn f cs => have rx' := rx; cases rx with | fn _ _ vs hl => exact fin _ h rx' (.inr ⟨_, _, rfl⟩)
  | _ => exact h.elim
theorem vcNil_sound {x : Operand} (ho : o.op = .nilCheck x) (hx : opndOk x) (h : vcNil x s K) : OpSem P w0 T0 o s K := (vcNil_still ho hx h).op

def vcFieldAddr (P : Program) (t : TypeId) (x : Operand) (k : Nat) (s : S) (K : AV → S → Prop) : Prop :=
  match P.underlying t with
  | some (.struct fs) => match fs[k]? with
    | some f => Chk (0 < P.cellsOf f.type) (match s.ev x with
      | .cell cs => K (.cell (cs.drop f.offset)) s
      | .ptr i off => K (.ptr i (off + f.offset)) s
      | .elt i sz idx off => K (.elt i sz idx (off + f.offset)) s
      | _ => False)
    | none => False
  | _ => False
theorem vcFieldAddr_still {t : TypeId} {x : Operand} {k : Nat} (ho : o.op = .fieldAddr t x k) (hx : opndOk x) (h : vcFieldAddr P t x k s K) : StillSem P w0 T0 o s K := by
  unfold vcFieldAddr at h
  cases ht : P.underlying t with
  | none => rw [ht] at h; exact h.elim
  | some d =>
    rw [ht] at h
    cases d with
    | struct fs =>
      dsimp only at h
      cases hf : fs[k]? with
      | none => rw [hf] at h; exact h.elim
      | some f =>
        rw [hf] at h
        obtain ⟨hp, h⟩ := h
        intro H a w m hm
        have rx := hm.ev x hx
        revert h rx
        generalize s.ev x = ax
        generalize hvx : a.eval x = vx
        intro h rx
        obtain ⟨i, hi⟩ := info_of_cells hp
        have hne : P.cellsOf f.type ≠ 0 := by omega
        have fin : ∀ r ad, vx = .pointer (some ad) → K r s → Rv (ctxOf T0 w0.heap.size m s w) r (.pointer (some (ad.add f.offset))) → ∃ r v, K r s ∧ (execOp a.eval o).run P w = .ok (.value v) w ∧ Rv (ctxOf T0 w0.heap.size m s w) r v := by
          intro r ad he hk hr
          refine ⟨r, _, hk, ?_, hr⟩
          unfold execOp; rw [ho]
          have hs := sizeOf_run (P := P) hi w
          simp [hvx, he, Instr.fieldAt, run_underlying ht, hf, Instr.sureAddr, fieldPlace, hs, hne]
        cases ax with
        | cell cs =>
          cases rx with
          | cell _ vs ad hl hid hs => exact fin _ ad rfl h (.cell _ _ _ (hl.drop f.offset) (noIdL_drop _ _ hid) (hs.drop f.offset))
        | ptr j off => cases rx with | ptr _ _ g hj hg => exact fin _ _ rfl h (by rw [Addr.add_lit]; exact .ptr _ _ _ hj hg)
        | elt j sz idx off => cases rx with | elt _ _ _ _ g hj hg => exact fin _ _ rfl h (by rw [Addr.add_lit, Nat.add_assoc]; exact .elt _ _ _ _ _ hj hg)
        | _ => exact h.elim
    | _ => exact h.elim
theorem vcFieldAddr_sound {t : TypeId} {x : Operand} {k : Nat} (ho : o.op = .fieldAddr t x k) (hx : opndOk x) (h : vcFieldAddr P t x k s K) : OpSem P w0 T0 o s K := (vcFieldAddr_still ho hx h).op

def vcIndexAddr (P : Program) (t : TypeId) (x i : Operand) (s : S) (K : AV → S → Prop) : Prop :=
  match P.underlying t, s.ev i with
  | some (.slice e), .int _ n => match s.ev x with
    | .ro r => Chk (0 ≤ n ∧ n < r.len ∧ P.cellsOf e = r.sz) (K (.cell (elemA r n.toNat)) s)
    | .own j => match lk s.rows j with
      | some (.row _ r) => Chk (0 ≤ n ∧ n < r.len ∧ P.cellsOf e = r.sz) (K (.elt j r.sz n.toNat 0) s)
      | _ => False
    | _ => False
  | some (.array len e), .int _ n => match s.ev x with
    | .ptr j off => Chk (0 ≤ n ∧ n < len ∧ 0 < P.cellsOf e) (K (.ptr j (off + n.toNat * P.cellsOf e)) s)
    | .cell cs => Chk (0 ≤ n ∧ n < len ∧ 0 < P.cellsOf e) (K (.cell (cs.drop (n.toNat * P.cellsOf e))) s)
    | .elt j sz idx off => Chk (0 ≤ n ∧ n < len ∧ 0 < P.cellsOf e) (K (.elt j sz idx (off + n.toNat * P.cellsOf e)) s)
    | _ => False
  | _, _ => False

theorem vcIndexAddr_still {t : TypeId} {x i : Operand} (ho : o.op = .indexAddr t x i) (hx : opndOk x) (hi : opndOk i) (h : vcIndexAddr P t x i s K) : StillSem P w0 T0 o s K := by
  unfold vcIndexAddr at h
  intro H a w m hm
  have rx := hm.ev x hx
  have ri := hm.ev i hi
  revert h rx ri
  generalize s.ev x = ax
  generalize hvx : a.eval x = vx
  generalize s.ev i = ai
  generalize hvi : a.eval i = vi
  intro h rx ri
  cases ht : P.underlying t with
  | none => rw [ht] at h; exact h.elim
  | some d =>
    rw [ht] at h
    cases d with
    | slice e =>
      cases ai with
      | int k n =>
        cases ri
        dsimp only at h
        have fin : ∀ r ad len cap, vx = .slice (some ad) len cap → 0 ≤ n → n < len → 0 < P.cellsOf e → K r s → Rv (ctxOf T0 w0.heap.size m s w) r (.pointer (some (ad.add (n.toNat * P.cellsOf e)))) → ∃ r v, K r s ∧ (execOp a.eval o).run P w = .ok (.value v) w ∧ Rv (ctxOf T0 w0.heap.size m s w) r v := by
          intro r ad len cap he h0 h1 hp hk hr
          refine ⟨r, _, hk, ?_, hr⟩
          obtain ⟨q, hq⟩ := info_of_cells hp
          have hs := sizeOf_run (P := P) hq w
          unfold execOp; rw [ho]
          simp [hvx, hvi, he, Instr.indexAt, asIntOf, run_underlying ht, h0, h1, hs]
        cases ax with
        | ro r =>
          obtain ⟨⟨h0, h1, h2⟩, hk⟩ := h
          cases rx with
          | roNil _ hr => have := hr.len; simp at this; have := hr.pos; rcases Nat.mul_eq_zero.1 (by omega : r.len * r.sz = 0) with e | e <;> omega
          | ro _ ad len cap cells hr hl hc hmx hs =>
            have hlt : n.toNat < r.len := by omega
            refine fin _ ad len cap rfl h0 (by omega) (by rw [h2]; exact hr.pos) hk (.cell _ _ _ (hr.elem hlt) hr.elemId ?_)
            rw [h2]
            exact (hs.drop _).take _
        | own j =>
          dsimp only at h
          cases hj : lk s.rows j with
          | none => rw [hj] at h; exact h.elim
          | some it =>
            rw [hj] at h
            cases it with
            | box e cs => exact h.elim
            | row e' r =>
              dsimp only at h
              obtain ⟨⟨h0, h1, h2⟩, hk⟩ := h
              obtain ⟨q, cells, hr, hn, how⟩ := (hm.rows j _ hj).2
              cases rx with
              | own _ hj2 _ =>
                have hlt : n.toNat < r.len := by omega
                rcases how.2 with ⟨hv, hq⟩ | ⟨g, cap, cur, hv, _⟩
                · omega
                · have hv' : (ctxOf T0 w0.heap.size m s w).m j = .slice (some ⟨g, 0, none⟩) q cap := hv
                  refine fin _ _ q cap hv h0 (by omega) (by rw [h2]; exact hr.pos) hk ?_
                  rw [Addr.add_lit, h2]
                  have := Rv.elt (c := ctxOf T0 w0.heap.size m s w) j r.sz n.toNat 0 g hj2 (by rw [hv']; rfl)
                  simpa using this
        | _ => exact h.elim
      | _ => exact h.elim
    | array len e =>
      cases ai with
      | int k n =>
        cases ri
        dsimp only at h
        have fin : ∀ r ad, vx = .pointer (some ad) → 0 ≤ n → n < len → 0 < P.cellsOf e → K r s → Rv (ctxOf T0 w0.heap.size m s w) r (.pointer (some (ad.add (n.toNat * P.cellsOf e)))) → ∃ r v, K r s ∧ (execOp a.eval o).run P w = .ok (.value v) w ∧ Rv (ctxOf T0 w0.heap.size m s w) r v := by
          intro r ad he h0 h1 hp hk hr
          refine ⟨r, _, hk, ?_, hr⟩
          obtain ⟨q, hq⟩ := info_of_cells hp
          have hs := sizeOf_run (P := P) hq w
          unfold execOp; rw [ho]
          simp [hvx, hvi, he, Instr.indexAt, asIntOf, run_underlying ht, h0, h1, hs, Instr.sureAddr]
        cases ax with
        | ptr j off =>
          obtain ⟨⟨h0, h1, h2⟩, hk⟩ := h
          cases rx with | ptr _ _ g hj hg => exact fin _ _ rfl h0 h1 h2 hk (by rw [Addr.add_lit]; exact .ptr _ _ _ hj hg)
        | cell cs =>
          obtain ⟨⟨h0, h1, h2⟩, hk⟩ := h
          cases rx with | cell _ vs ad hl hid hs => exact fin _ ad rfl h0 h1 h2 hk (.cell _ _ _ (hl.drop _) (noIdL_drop _ _ hid) (hs.drop _))
        | elt j sz idx off =>
          obtain ⟨⟨h0, h1, h2⟩, hk⟩ := h
          cases rx with | elt _ _ _ _ g hj hg => exact fin _ _ rfl h0 h1 h2 hk (by rw [Addr.add_lit, Nat.add_assoc]; exact .elt _ _ _ _ _ hj hg)
        | _ => exact h.elim
      | _ => exact h.elim
    | _ => exact h.elim
theorem vcIndexAddr_sound {t : TypeId} {x i : Operand} (ho : o.op = .indexAddr t x i) (hx : opndOk x) (hi : opndOk i) (h : vcIndexAddr P t x i s K) : OpSem P w0 T0 o s K := (vcIndexAddr_still ho hx hi h).op

end
end Go.Fv
