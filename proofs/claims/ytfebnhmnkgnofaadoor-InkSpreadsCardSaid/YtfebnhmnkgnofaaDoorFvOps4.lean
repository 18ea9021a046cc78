/-
  Stores, makes, append, len.
-/
import Derived.Test.YtfebnhmnkgnofaaDoorFvOps3
namespace Go.Fv
open Go.RowKit
set_option linter.unusedVariables false
set_option linter.unusedSimpArgs false
set_option linter.unnecessarySimpa false

section
variable {P : Program} {w0 : World} {T0 : Nat → Prop} {o : Oper} {s : S} {K : AV → S → Prop}

def vcStore (P : Program) (t : TypeId) (x v : Operand) (s : S) (K : AV → S → Prop) : Prop :=
  match boxable (s.ev v) with
  | none => False
  | some cs => Chk (opndOk v ∧ 0 < P.cellsOf t ∧ P.cellsOf t = cs.length) (match s.ev x with
    | .ptr i off => match lk s.rows i with
      | some (.box e bs) => Chk (off + cs.length ≤ bs.length) (K .dead (s.upd i (.box e (spl bs off cs))))
      | _ => False
    | .elt i sz idx off => match lk s.rows i with
      | some (.row e r) => Chk (idx < r.len ∧ sz = r.sz ∧ noIdL cs = true) (match setElem r idx off cs with
        | some r' => K .dead (s.upd i (.row e r'))
        | none => False)
      | _ => False
    | _ => False)

theorem Below.setRow {w0 w : World} (h : Below w0.heap.size w0 w) {g : Nat} (hg : w0.heap.size ≤ g) (cs : Array Value) : Below w0.heap.size w0 (w.setRow g cs) :=
  h.trans ⟨rfl, rfl, rfl, by simp [World.setRow], fun k hk => setRow_other w g k cs (by omega)⟩

theorem vcStore_sound {t : TypeId} {x v : Operand} (ho : o.op = .store t x v) (hx : opndOk x) (h : vcStore P t x v s K) : OpSem P w0 T0 o s K := by
  unfold vcStore at h
  cases hb : boxable (s.ev v) with
  | none => rw [hb] at h; exact h.elim
  | some cs =>
    rw [hb] at h
    obtain ⟨⟨hv, hpos, hsz⟩, h⟩ := h
    refine OpSem.mem fun H a w m hm => ?_
    have hl := boxable_ok (hm.ev v hv) hb
    have rx := hm.ev x hx
    revert h rx
    generalize s.ev x = ax
    generalize hvx : a.eval x = vx
    intro h rx
    obtain ⟨inf, hinf⟩ := info_of_cells hpos
    have hsz' : (sizeOf t).run P w = .ok (P.cellsOf t) w := sizeOf_run hinf w
    have hcl : (a.eval v).cells.size = P.cellsOf t := by
      have := hl.length; rw [hsz]; simpa using this
    -- the store itself
    have run : ∀ (g off : Nat) (cur : Array Value) (e : TypeId), vx = .pointer (some ⟨g, off, none⟩) → w.heap[g]? = some (.cells cur e (0, 0)) → off + (a.eval v).cells.toList.length ≤ cur.size →
        (execOp a.eval o).run P w = .ok .skip (w.setRow g (splV cur.toList off (a.eval v).cells.toList).toArray) := by
      intro g off cur e he hg hle
      have hr := run_storeCells_at (P := P) g off e (a.eval v).cells.toList 0 cur w hg (by simpa using hle) hl.one
      rw [Nat.add_zero] at hr
      rw [splV_eq _ _ _ (by simpa using hle)]
      unfold execOp; rw [ho]
      simp [hvx, he, Instr.storeAt, Instr.sureAddr, storeVar, hsz', hcl, hr]
    cases ax with
    | ptr i off =>
      dsimp only at h
      cases hi : lk s.rows i with
      | none => rw [hi] at h; exact h.elim
      | some it =>
        rw [hi] at h
        cases it with
        | row e r => exact h.elim
        | box e bs =>
          dsimp only at h
          obtain ⟨hle, hk⟩ := h
          cases rx with
          | ptr _ _ g _ hg =>
            obtain ⟨g', vs, hv', hge, hlb, hh⟩ := (hm.rows i _ hi).2
            have hmi : blk (m i) = some g := hg
            rw [hv'] at hmi; cases hmi
            have hlen := hlb.length
            have hlc := hl.length
            refine ⟨.dead, undef, _, _, m, hk, .inr ⟨run g' off vs.toArray e rfl hh (by simp at hlc ⊢; omega), rfl⟩, ?_⟩
            refine (hm.upd (Below.setRow hm.below hge _) hi (fun b hb hne => setRow_other w g' b _ (fun e => hne (by rw [hv', e]; rfl))) _ (fun c hle' hw hmm hN => ?_)).hold (.dead _)
            refine ⟨g', splV vs off (a.eval v).cells.toList, hv', hge, RvL.spl off (hlb.mono hle') (hl.mono hle'), ?_⟩
            rw [hw]; exact setRow_heap w g' _ _ _ _ hh
    | elt i sz idx off =>
      dsimp only at h
      cases hi : lk s.rows i with
      | none => rw [hi] at h; exact h.elim
      | some it =>
        rw [hi] at h
        cases it with
        | box e bs => exact h.elim
        | row e r =>
          dsimp only at h
          obtain ⟨⟨hlt, rfl, hid⟩, h⟩ := h
          cases hs : setElem r idx off cs with
          | none => rw [hs] at h; exact h.elim
          | some r' =>
            rw [hs] at h
            cases rx with
            | elt _ _ _ _ g _ hg =>
              obtain ⟨n, cells, hr, hn, how⟩ := (hm.rows i _ hi).2
              obtain ⟨hr', hlen', hsz'', hoff⟩ := setElem_ok hr hs hl hid hlt
              have hcl' := hr.len
              have hblk : blk (m i) = some g := hg
              rcases how.2 with ⟨hv', _⟩ | ⟨g', cap, cur, hv', hge, hh, hnc, hcm, hcs, htake⟩
              · rw [hv'] at hblk; cases hblk
              · rw [hv'] at hblk; cases hblk
                have hxl : cells.length = n * r.sz := how.1
                have hin : idx * r.sz + off + (a.eval v).cells.toList.length ≤ cells.length := by
                  have : (idx + 1) * r.sz ≤ r.len * r.sz := Nat.mul_le_mul_right _ hlt
                  rw [Nat.succ_mul] at this
                  rw [hcl']; omega
                have hcur : cur.toList = cells ++ cur.toList.drop (n * r.sz) := by rw [← htake, List.take_append_drop]
                have hcurlen : cells.length ≤ cur.size := by
                  have := congrArg List.length hcur; simp at this; rw [hxl]; omega
                refine ⟨.dead, undef, _, _, m, h, .inr ⟨run g' _ cur e rfl hh (by omega), rfl⟩, ?_⟩
                refine (hm.upd (Below.setRow hm.below hge _) hi (fun b hb hne => setRow_other w g' b _ (fun e => hne (by rw [hv', e]; rfl))) _ (fun c hle' hw hmm hN => ?_)).hold (.dead _)
                refine ⟨n, splV cells (idx * r.sz + off) (a.eval v).cells.toList, hr'.mono hle', by rw [hlen', hn], ?_⟩
                refine ⟨by rw [splV_length, hsz'']; exact how.1, .inr ⟨g', cap, _, hv', hge, by rw [hw]; exact setRow_heap w g' _ _ _ _ hh, hnc, hcm, ?_, ?_⟩⟩
                · simp only [List.size_toArray, splV_length, Array.length_toList, hsz'']; exact hcs
                · rw [hsz'']
                  show List.take (n * r.sz) (splV cur.toList (idx * r.sz + off) (a.eval v).cells.toList) = _
                  conv => lhs; rw [hcur]
                  rw [splV_left _ _ _ _ hin]
                  have e2 : (splV cells (idx * r.sz + off) (a.eval v).cells.toList).length = n * r.sz := by rw [splV_length, hxl]
                  rw [← e2, List.take_left']
                  rfl
    | _ => exact h.elim

/-! ### make -/
def vcMake (P : Program) (t : TypeId) (l c : Operand) (s : S) (K : AV → S → Prop) : Prop :=
  match P.underlying t, s.ev l, s.ev c with
  | some (.slice e), .int _ n, .int _ n2 => match zeroOf P e with
    | some z => Chk (ElemZ P e z) (Chk (0 ≤ n ∧ n ≤ n2 ∧ n2 ≤ 137438953472) (K (.own s.next) (s.add (.row e (zrow z n.toNat)))))
    | none => False
  | _, _, _ => False

theorem zpos {z : Value} (h : zOk z) : 0 < z.cells.size := by
  cases z <;> first | exact h.2 | exact h.elim | exact Nat.one_pos

theorem hold_own {H : List (AV × Value)} {a : Act} {w : World} {s : S} {rows : List (Nat × Item)} {m : Nat → Value} {v : Value}
    (h : RepM w0 T0 H { s with rows := rows, next := s.next + 1 } a w (Fv.upd m s.next v)) (h1 : v.oneCell' = true) :
    RepM w0 T0 ((.own s.next, v) :: H) { s with rows := rows, next := s.next + 1 } a w (Fv.upd m s.next v) := by
  refine h.hold ?_
  have e : (Fv.upd m s.next v) s.next = v := upd_same _ _ _
  have hr : Rv (ctxOf T0 w0.heap.size (Fv.upd m s.next v) { s with rows := rows, next := s.next + 1 } w) (.own s.next) ((Fv.upd m s.next v) s.next) :=
    .own _ (Nat.lt_succ_self _) (by show Value.oneCell' (Fv.upd m s.next v s.next) = true; rw [e]; exact h1)
  rw [e] at hr; exact hr

theorem vcMake_sound {t : TypeId} {l c : Operand} (ho : o.op = .makeSlice t l c) (hl : opndOk l) (hc : opndOk c) (h : vcMake P t l c s K) : OpSem P w0 T0 o s K := by
  unfold vcMake at h
  refine OpSem.mem fun H a w m hm => ?_
  have rl := hm.ev l hl
  have rc := hm.ev c hc
  revert h rl rc
  generalize s.ev l = al
  generalize hvl : a.eval l = vl
  generalize s.ev c = ac
  generalize hvc : a.eval c = vc
  intro h rl rc
  cases ht : P.underlying t with
  | none => rw [ht] at h; exact h.elim
  | some d =>
    rw [ht] at h
    cases d with
    | slice e =>
      cases al with
      | int k n =>
        cases ac with
        | int k2 n2 =>
          cases rl; cases rc
          dsimp only at h
          cases hz : zeroOf P e with
          | none => rw [hz] at h; exact h.elim
          | some z =>
            rw [hz] at h
            obtain ⟨hez, ⟨h0, h1, h2⟩, hk⟩ := h
            obtain ⟨i, hi, hiz, his, hib⟩ := hez.ex
            have hb : (i.bytes : Int) * n2 ≤ 281474976710656 := by
              have h3 : (i.bytes : Int) * n2 ≤ 1024 * n2 := Int.mul_le_mul_of_nonneg_right (by omega) (by omega)
              omega
            have hr := run_make (P := P) w t e i z ht hi hiz k k2 n n2 h0 h1 hb (by omega)
            rw [his] at hr
            have hcells := madeCells_flat z.cells n2.toNat
            obtain ⟨hz1, hz2, hz3⟩ := zrow_ok (ctxOf T0 w0.heap.size m s w) hez.ok n.toNat
            have hnew := hm.new (w' := w.alloc (.cells (madeCells z.cells (n2.toNat * z.cells.size)) e)) (Below.allocB hm.below _) (fun b hb => Below.heap_alloc w _ b hb)
              (.row e (zrow z n.toNat)) (.slice (some ⟨w.heap.size, 0, none⟩) n.toNat n2.toNat) (fun b hb => by cases hb; exact Nat.le_refl _) (fun c' hle hw => by
                obtain ⟨q1, q2, q3⟩ := zrow_ok c' hez.ok n.toNat
                refine ⟨n.toNat, _, q1, q2, ?_⟩
                rw [hw, q3]
                refine ⟨by rw [replicate_flat]; simp, .inr ⟨w.heap.size, n2.toNat, madeCells z.cells (n2.toNat * z.cells.size), rfl, hm.lt, heap_alloc_new w _, by omega, by simp only [maxLen]; omega, by rw [size_madeCells], ?_⟩⟩
                rw [hcells]
                have e1 : n2.toNat = n.toNat + (n2.toNat - n.toNat) := by omega
                rw [e1, ← List.replicate_append_replicate, List.flatten_append]
                have e2 : ((List.replicate n.toNat z.cells.toList).flatten).length = n.toNat * z.cells.size := by rw [replicate_flat]; simp
                rw [← e2, List.take_left']; rfl)
            refine ⟨_, _, _, _, _, hk, .inl ?_, (hold_own hnew rfl)⟩
            unfold execOp; rw [ho]
            simp [hvl, hvc, hr]
        | _ => exact h.elim
      | _ => exact h.elim
    | _ => exact h.elim

/-! ### append -/
def rowOfAV (s : S) (i : Nat) (like : RowV) : AV → Option RowV
  | .ro r => some r
  | .own j => if j = i then none else match lk s.rows j with
    | some (.row _ r) => some r
    | _ => none
  | .nilS => some (subRow like 0 0)
  | _ => none

def vcAppend (P : Program) (t t2 : TypeId) (x y : Operand) (s : S) (K : AV → S → Prop) : Prop :=
  match P.underlying t, s.ev x with
  | some (.slice e), .own i => match lk s.rows i with
    | some (.row e' r) => match rowOfAV s i r (s.ev y) with
      | some r2 => match appRow r r2 with
        | some r3 => match zeroOf P e with
          | some z => Chk (ElemZ P e z) (Chk (t2 = t ∧ opndOk y ∧ e' = e ∧ r.sz = z.cells.size) (Chk (r3.len ≤ 137438953472) (K (.own s.next) (s.swap i (.row e r3)))))
          | none => False
        | none => False
      | none => False
    | _ => False
  | _, _ => False

theorem CellsAt.read {c : Ctx} {a : Addr} {cells : List Value} (h : CellsAt c a cells) : ∀ j u, cells[j]? = some u → c.w.cell? (a.add j) = some u := h.2.2

/-- What is appended: its cells, and where they lie. -/
theorem rowOfAV_ok {H : List (AV × Value)} {a : Act} {w : World} {m : Nat → Value} (hm : RepM w0 T0 H s a w m) {i : Nat} {like r2 : RowV} {y : AV} {v : Value} {lc : List Value} (hlike : RowC (ctxOf T0 w0.heap.size m s w) like lc)
    (hy : Rv (ctxOf T0 w0.heap.size m s w) y v) (h : rowOfAV s i like y = some r2) : ∃ cells, RowC (ctxOf T0 w0.heap.size m s w) r2 cells ∧
      ((v = .slice none 0 0 ∧ r2.len = 0) ∨ ∃ ad c, v = .slice (some ad) r2.len c ∧ ∀ j u, cells[j]? = some u → w.cell? (ad.add j) = some u) := by
  cases y with
  | ro r =>
    cases h
    cases hy with
    | roNil _ hr =>
      refine ⟨[], hr, .inl ⟨rfl, ?_⟩⟩
      have := hr.len; have := hr.pos; simp at *
      rcases Nat.mul_eq_zero.1 (by omega : r2.len * r2.sz = 0) with e | e <;> omega
    | ro _ ad len cap cells hr hl _ _ hs => exact ⟨cells, hr, .inr ⟨ad, cap, by rw [hl], hs.2.2⟩⟩
  | own j =>
    simp only [rowOfAV] at h
    split at h
    · cases h
    · cases hj : lk s.rows j with
      | none => rw [hj] at h; cases h
      | some it =>
        rw [hj] at h
        cases it with
        | box e cs => cases h
        | row e r =>
          cases h
          obtain ⟨n, cells, hr, hn, how⟩ := (hm.rows j _ hj).2
          cases hy with
          | own _ hj2 _ =>
            refine ⟨cells, hr, ?_⟩
            rcases how.2 with ⟨hv, hq⟩ | ⟨g, cap, cur, hv, _⟩
            · exact .inl ⟨hv, by omega⟩
            · refine .inr ⟨⟨g, 0, none⟩, cap, by rw [hn]; exact hv, how.cells (g := g) (by rw [hv]; rfl)⟩
  | nilS =>
    cases h
    cases hy
    exact ⟨_, hlike.sub 0 0, .inl ⟨rfl, by rw [subRow_len _ _ _ (Nat.zero_le _)]⟩⟩
  | _ => cases h

theorem vcAppend_sound {t t2 : TypeId} {x y : Operand} (ho : o.op = .call { callee := .builtin .append, args := #[x, y], argTypes := #[t, t2] }) (hx : opndOk x) (h : vcAppend P t t2 x y s K) : OpSem P w0 T0 o s K := by
  unfold vcAppend at h
  refine OpSem.mem fun H a w m hm => ?_
  have rx := hm.ev x hx
  cases ht : P.underlying t with
  | none => rw [ht] at h; exact h.elim
  | some d =>
    rw [ht] at h
    cases d with
    | slice e =>
      revert h rx
      generalize s.ev x = ax
      generalize hvx : a.eval x = vx
      intro rx h
      cases ax with
      | own i =>
        dsimp only at h
        cases hi : lk s.rows i with
        | none => rw [hi] at h; exact h.elim
        | some it =>
          rw [hi] at h
          cases it with
          | box _ _ => exact h.elim
          | row e' r =>
            dsimp only at h
            cases hy : rowOfAV s i r (s.ev y) with
            | none => rw [hy] at h; exact h.elim
            | some r2 =>
              rw [hy] at h
              dsimp only at h
              cases h3 : appRow r r2 with
              | none => rw [h3] at h; exact h.elim
              | some r3 =>
                rw [h3] at h
                dsimp only at h
                cases hz : zeroOf P e with
                | none => rw [hz] at h; exact h.elim
                | some z =>
                  rw [hz] at h
                  obtain ⟨hez, ⟨rfl, hoy, rfl, hrs⟩, hb, hk⟩ := h
                  obtain ⟨n, cells, hr, hn, how⟩ := (hm.rows i _ hi).2
                  obtain ⟨cells2, hr2, hsrc⟩ := rowOfAV_ok hm hr (hm.ev y hoy) hy
                  obtain ⟨hr3, hl3, hs3, hs2⟩ := appRow_ok hr hr2 h3
                  cases rx with
                  | own _ hj2 h1 =>
                    have hml : cells2.length = r2.len * r.sz := by rw [hr2.len, hs2]
                    obtain ⟨v', w', hrun, how', hgr, hbl⟩ := append_own (P := P) (w := w) (t := t2) (ty := o.type) ht hez hrs hr.pos how (a.eval y) r2.len cells2 hml hr2.one
                      (by
                        rcases hsrc with ⟨e1, e2⟩ | ⟨ad, c, e1, e2⟩
                        · exact .inl ⟨e1, e2⟩
                        · exact .inr ⟨ad, c, e1, e2⟩) (by omega) hm.lt
                    have hown1 : v'.oneCell' = true := by rcases how'.2 with ⟨e, _⟩ | ⟨_, _, _, e, _⟩ <;> rw [e] <;> rfl
                    have hbelow : Below w0.heap.size w0 w' := hm.below.grown hgr hm.lt (fun k hk => by
                      rcases how.2 with ⟨e, _⟩ | ⟨g, _, _, e, hge, _⟩
                      · rw [e] at hk; cases hk
                      · rw [e] at hk; cases hk; exact hge)
                    have hrep := hm.repl hbelow hi (fun b hb hne => hgr.block b hb (fun e => hne (by
                        rcases how.2 with ⟨e', _⟩ | ⟨g, _, _, e', _⟩
                        · rw [e'] at e; cases e
                        · rw [e'] at e ⊢; exact e.symm))) (.row e' r3) v' (fun b h1 h2 => hbl b h1 h2) (fun c hle hw => by
                          refine ⟨n + r2.len, cells ++ cells2, hr3.mono hle, by rw [hl3, hn], ?_⟩
                          rw [hw, hs3]; exact how')
                    refine ⟨_, _, _, _, _, hk, .inl ?_, hold_own hrep hown1⟩
                    unfold execOp; rw [ho]
                    have hvx' : a.eval x = m i := hvx
                    simp [resolve, invoke, builtin, hvx', hrun]
      | _ => exact h.elim
    | _ => exact h.elim

/-! ### len -/
def vcLen (P : Program) (t : TypeId) (x : Operand) (s : S) (K : AV → S → Prop) : Prop :=
  match P.underlying t, s.ev x with
  | some .string, .str l => Asm (l.length ≤ 9223372036854775807) (K (.int .i64 l.length) s)
  | some (.slice _), .ro r => Asm (r.len ≤ 9223372036854775807) (K (.int .i64 r.len) s)
  | some (.slice _), .own i => match lk s.rows i with
    | some (.row _ r) => Asm (r.len ≤ 9223372036854775807) (K (.int .i64 r.len) s)
    | _ => False
  | some (.slice _), .nilS => K (.int .i64 0) s
  | _, _ => False
theorem InK_nat {n : Nat} (h : n ≤ 9223372036854775807) : InK .i64 n := InK_i64.2 ⟨by omega, by omega⟩
theorem maxLen_eq : maxLen = 9223372036854775807 := by simp [maxLen]
theorem vcLen_still {t : TypeId} {x : Operand} (ho : o.op = .call { callee := .builtin .len, args := #[x], argTypes := #[t] }) (hx : opndOk x) (h : vcLen P t x s K) : StillSem P w0 T0 o s K := by
  unfold vcLen at h
  intro H a w m hm
  have rx := hm.ev x hx
  revert h rx
  generalize s.ev x = ax
  generalize hvx : a.eval x = vx
  intro h rx
  cases ht : P.underlying t with
  | none => rw [ht] at h; exact h.elim
  | some d =>
    rw [ht] at h
    have fin : ∀ n : Nat, n ≤ 9223372036854775807 → K (.int .i64 n) s → (Builtin.len_ #[t] o.type #[vx]).run P w = .ok (.int .i64 n) w → ∃ r v, K r s ∧ (execOp a.eval o).run P w = .ok (.value v) w ∧ Rv (ctxOf T0 w0.heap.size m s w) r v := by
      intro n hn hk hr
      refine ⟨_, _, hk, ?_, .int _ _ (InK_nat hn)⟩
      unfold execOp; rw [ho]
      simp [resolve, invoke, builtin, hvx, hr]
    cases d with
    | string =>
      cases ax with
      | str l =>
        cases rx with
        | str _ hl =>
          have hl' : l.length ≤ 9223372036854775807 := by rw [← maxLen_eq]; exact hl
          refine fin l.length hl' (h hl') ?_
          have e : (ByteArray.mk l.toArray).size = l.length := by show l.toArray.size = _; simp
          simp [Builtin.len_, run_underlying ht, goInt, e]
      | _ => exact h.elim
    | slice e =>
      cases ax with
      | ro r =>
        cases rx with
        | roNil _ hr =>
          have hz : r.len = 0 := by
            have h1 := hr.len; have h2 := hr.pos; simp at h1
            rcases Nat.mul_eq_zero.1 (by omega : r.len * r.sz = 0) with e | e <;> omega
          have hl' : r.len ≤ 9223372036854775807 := by omega
          refine fin r.len hl' (h hl') ?_
          simp [Builtin.len_, run_underlying ht, goInt, hz]
        | ro _ ad len cap cells hr hl hc hmx hs =>
          have hl' : r.len ≤ 9223372036854775807 := by rw [← maxLen_eq]; omega
          refine fin r.len hl' (h hl') ?_
          simp [Builtin.len_, run_underlying ht, goInt, hl]
      | own i =>
        dsimp only at h
        cases hi : lk s.rows i with
        | none => rw [hi] at h; exact h.elim
        | some it =>
          rw [hi] at h
          cases it with
          | box _ _ => exact h.elim
          | row e' r =>
            obtain ⟨n, cells, hr, hn, how⟩ := (hm.rows i _ hi).2
            cases rx with
            | own _ hj2 _ =>
              rcases how.2 with ⟨hv, hq⟩ | ⟨g, cap, cur, hv, _, _, hnc, hcm, _⟩
              · have hv' : (ctxOf T0 w0.heap.size m s w).m i = .slice none 0 0 := hv
                have hl' : r.len ≤ 9223372036854775807 := by omega
                refine fin r.len hl' (h hl') ?_
                rw [hv', hn, hq]
                simp [Builtin.len_, run_underlying ht, goInt]
              · have hv' : (ctxOf T0 w0.heap.size m s w).m i = .slice (some ⟨g, 0, none⟩) n cap := hv
                have hl' : r.len ≤ 9223372036854775807 := by rw [← maxLen_eq]; omega
                refine fin r.len hl' (h hl') ?_
                rw [hv', hn]
                simp [Builtin.len_, run_underlying ht, goInt]
      | nilS =>
        cases rx
        refine fin 0 (by omega) h ?_
        simp [Builtin.len_, run_underlying ht, goInt]
      | _ => exact h.elim
    | _ => cases ax <;> exact h.elim
theorem vcLen_sound {t : TypeId} {x : Operand} (ho : o.op = .call { callee := .builtin .len, args := #[x], argTypes := #[t] }) (hx : opndOk x) (h : vcLen P t x s K) : OpSem P w0 T0 o s K := (vcLen_still ho hx h).op

end
end Go.Fv
