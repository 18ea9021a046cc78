/-
  A part of the proof of the claim: walks over the program's functions and the plain laws that these need. No condition of its own.
-/
import Derived.Test.YtfebnhmnkgnofaaDoorFvPart1
/-
  Rows that grow: append, make, literal slices.
-/

namespace Go.Fv
open Go.RowKit
set_option linter.unusedVariables false
set_option linter.unusedSimpArgs false
set_option linter.unnecessarySimpa false

def zeroOf (P : Program) (e : TypeId) : Option Value := (P.info? e).bind (·.zero)
def zOk : Value → Prop
  | .int k n => InK k n
  | .string s => s.size ≤ maxLen
  | .agg cs => (∀ v, v ∈ cs.toList → v.oneCell' = true ∧ strConstsOk v) ∧ 0 < cs.size
  | .tuple _ => False
  | _ => True
structure ElemZ (P : Program) (e : TypeId) (z : Value) : Prop where
  ex : ∃ i, P.info? e = some i ∧ i.zero = some z ∧ i.size = z.cells.size ∧ i.bytes ≤ 1024
  ok : zOk z
def zrow : Value → Nat → RowV
  | .bool b, n => .bools (List.replicate n b)
  | .int k x, n => .ints k (List.replicate n x)
  | .string s, n => .strs (List.replicate n s.data.toList)
  | .agg cs, n => .objs cs.size (List.replicate n (cs.toList.map ofV))
  | v, n => .objs 1 (List.replicate n [ofV v])
def appRow : RowV → RowV → Option RowV
  | .bools a, .bools b => some (.bools (a ++ b))
  | .ints k a, .ints k' b => if k = k' then some (.ints k (a ++ b)) else none
  | .strs a, .strs b => some (.strs (a ++ b))
  | .objs n a, .objs n' b => if n = n' then some (.objs n (a ++ b)) else none
  | _, _ => none

theorem appRow_ok {c : Ctx} {r r2 r3 : RowV} {cells cells2 : List Value} (h1 : RowC c r cells) (h2 : RowC c r2 cells2) (h : appRow r r2 = some r3) :
    RowC c r3 (cells ++ cells2) ∧ r3.len = r.len + r2.len ∧ r3.sz = r.sz ∧ r2.sz = r.sz := by
  cases h1 with
  | bools l =>
    cases h2 <;> simp only [appRow] at h <;> cases h
    rename_i l2
    refine ⟨?_, by simp [RowV.len], rfl, rfl⟩
    rw [← List.map_append]; exact .bools _
  | ints k l hk =>
    cases h2 <;> simp only [appRow] at h <;> try cases h
    rename_i k2 l2 hk2
    split at h <;> cases h
    rename_i e; subst e
    refine ⟨?_, by simp [RowV.len], rfl, rfl⟩
    rw [← List.map_append]
    exact .ints _ _ fun x hx => by
      cases List.mem_append.1 hx with
      | inl e => exact hk x e
      | inr e => exact hk2 x e
  | strs l hk =>
    cases h2 <;> simp only [appRow] at h <;> cases h
    rename_i l2 hk2
    refine ⟨?_, by simp [RowV.len], rfl, rfl⟩
    rw [← List.map_append]
    exact .strs _ fun x hx => by
      cases List.mem_append.1 hx with
      | inl e => exact hk x e
      | inr e => exact hk2 x e
  | objs sz l cells hz ho =>
    cases h2 <;> simp only [appRow] at h <;> try cases h
    rename_i sz2 l2 hz2 ho2
    split at h <;> cases h
    rename_i e; subst e
    exact ⟨.objs _ _ _ hz (ho.append ho2), by simp [RowV.len], rfl, rfl⟩

theorem zcell_rv (c : Ctx) : ∀ {cs : List Value}, (∀ v, v ∈ cs → v.oneCell' = true ∧ strConstsOk v) → RvL c (cs.map ofV) cs
  | [], _ => .nil
  | v :: cs, h => .cons _ _ _ _ (ofV_rv c v (h v (.head _)).2) (h v (.head _)).1 (zcell_rv c fun u hu => h u (.tail _ hu))

theorem replicate_flat {α : Type} (n : Nat) (l : List α) : ((List.replicate n l).flatten).length = n * l.length := by
  induction n with
  | zero => simp
  | succ n ih => simp [List.replicate_succ, ih, Nat.succ_mul, Nat.add_comm]

theorem ofV_noId (v : Value) : noId (ofV v) = true := by
  cases v with
  | int k n => simp only [ofV]; cases inKB k n <;> rfl
  | slice a l c =>
    cases a with
    | some a => rfl
    | none =>
      cases l with
      | succ l => rfl
      | zero => cases c <;> rfl
  | _ => rfl
theorem ofV_noIdL : ∀ cs : List Value, noIdL (cs.map ofV) = true
  | [] => rfl
  | v :: cs => by simp [noIdL, ofV_noId v, ofV_noIdL cs]
theorem objs_replicate {c : Ctx} {o : List AV} {vs : List Value} (h : RvL c o vs) (hid : noIdL o = true) (n : Nat) : ObjsC c vs.length (List.replicate n o) (List.replicate n vs).flatten := by
  induction n with
  | zero => exact .nil _
  | succ n ih => simpa [List.replicate_succ] using .cons _ o vs _ _ h hid rfl ih

theorem zrow_ok (c : Ctx) {z : Value} (h : zOk z) (n : Nat) : RowC c (zrow z n) (List.replicate n z.cells.toList).flatten ∧ (zrow z n).len = n ∧ (zrow z n).sz = z.cells.size := by
  have one : ∀ (v : Value), v.cells = #[v] → (List.replicate n v.cells.toList).flatten = List.replicate n v := by
    intro v hv; rw [hv]; clear h
    induction n with
    | zero => rfl
    | succ n ih => simpa [List.replicate_succ] using ih
  have gen : ∀ v : Value, v.cells = #[v] → v.oneCell' = true → strConstsOk v → RowC c (.objs 1 (List.replicate n [ofV v])) (List.replicate n v.cells.toList).flatten := by
    intro v hv h1 h2
    have := objs_replicate (c := c) (o := [ofV v]) (vs := [v]) (.cons _ _ _ _ (ofV_rv c v h2) h1 .nil) (by simpa using ofV_noIdL [v]) n
    rw [hv]
    exact .objs 1 _ _ (by omega) this
  cases z with
  | bool b => refine ⟨?_, by simp [zrow, RowV.len], rfl⟩; rw [one _ rfl]; simp only [zrow]; rw [← List.map_replicate]; exact .bools _
  | int k x =>
    refine ⟨?_, by simp [zrow, RowV.len], rfl⟩; rw [one _ rfl]; simp only [zrow]; rw [← List.map_replicate]
    exact .ints _ _ fun y hy => by rw [(List.mem_replicate.1 hy).2]; exact h
  | string s =>
    refine ⟨?_, by simp [zrow, RowV.len], rfl⟩; rw [one _ rfl]; simp only [zrow]
    have : List.replicate n (Value.string s) = (List.replicate n s.data.toList).map fun l => Value.string ⟨l.toArray⟩ := by rw [List.map_replicate]
    rw [this]
    exact .strs _ fun y hy => by rw [(List.mem_replicate.1 hy).2]; rw [Array.length_toList]; exact h
  | agg _ =>
    refine ⟨?_, by simp [zrow, RowV.len], rfl⟩
    simp only [zrow, Value.cells]
    have := objs_replicate (zcell_rv c h.1) (ofV_noIdL _) n
    exact .objs _ _ _ h.2 (by simpa using this)
  | tuple _ => exact h.elim
  | _ => exact ⟨gen _ rfl rfl trivial, by simp [zrow, RowV.len], rfl⟩

theorem madeCells_flat (z : Array Value) (n : Nat) : (madeCells z (n * z.size)).toList = (List.replicate n z.toList).flatten := by
  apply List.ext_getElem?
  intro j
  have hl : (madeCells z (n * z.size)).toList.length = n * z.size := by simp [size_madeCells]
  have hr : ((List.replicate n z.toList).flatten).length = n * z.size := by rw [replicate_flat]; simp
  by_cases hj : j < n * z.size
  · have e1 : (madeCells z (n * z.size)).toList[j]? = some (z[j % z.size]!) := by
      simp [madeCells, hj]
    rw [e1]
    have : ∀ (n j : Nat), j < n * z.size → ((List.replicate n z.toList).flatten)[j]? = some (z[j % z.size]!) := by
      intro n
      induction n with
      | zero => intro j hj; simp at hj
      | succ n ih =>
        intro j hj
        rw [List.replicate_succ, List.flatten_cons]
        by_cases h : j < z.size
        · rw [List.getElem?_append_left (by simpa using h), Nat.mod_eq_of_lt h]
          simp [h]
        · rw [List.getElem?_append_right (by simpa using h)]
          have := ih (j - z.size) (by rw [Nat.succ_mul] at hj; omega)
          simp only [Array.length_toList]
          rw [this, Nat.mod_eq_sub_mod (by omega : j ≥ z.size)]
    rw [this n j hj]
  · rw [List.getElem?_eq_none (by omega), List.getElem?_eq_none (by omega)]

/-- Append onto a row of the call's own: where it lies then is told. -/
theorem append_own {P : Program} {w : World} {base : Nat} {t ty e : TypeId} {z : Value} (ht : P.underlying t = some (.slice e)) (hz : ElemZ P e z)
    {v : Value} {n : Nat} {xs : List Value} {size : Nat} (hsz : size = z.cells.size) (hpos : 0 < size) (hown : w.ownsRow base e size v n xs)
    (src : Value) (m : Nat) (news : List Value) (hl : news.length = m * size) (h1 : ∀ u ∈ news, u.oneCell' = true)
    (hsrc : (src = .slice none 0 0 ∧ m = 0) ∨ ∃ a c, src = .slice (some a) m c ∧ ∀ j u, news[j]? = some u → w.cell? (a.add j) = some u)
    (hb : n + m ≤ 137438953472) (hbase : base ≤ w.heap.size) :
    ∃ v' w', (Builtin.append_ #[t, t] ty #[v, src]).run P w = .ok v' w' ∧ w'.ownsRow base e size v' (n + m) (xs ++ news) ∧ w.grownBy w' v.ownBlock ∧
      (∀ b, blk v' = some b → b < w.heap.size → blk v = some b) := by
  obtain ⟨i, hi, hiz, his, hib⟩ := hz.ex
  rcases hsrc with ⟨rfl, rfl⟩ | ⟨a, c, rfl, hnews⟩
  · have hn : news = [] := List.eq_nil_of_length_eq_zero (by simpa using hl)
    subst hn
    refine ⟨v, w, run_append_owned_none w base t ty e i size ht hi v n xs hown, by simpa using hown, World.grownBy.refl _ _, fun b hb _ => hb⟩
  have hbytes : (n + m) * i.bytes ≤ 140737488355328 := by
    have : (n + m) * i.bytes ≤ 137438953472 * 1024 := Nat.mul_le_mul hb hib
    omega
  have his' : i.size = size := by rw [his, hsz]
  subst his'
  have hlen : (xs ++ news).length = (n + m) * i.size := by rw [List.length_append, hown.1, hl, Nat.add_mul]
  have h63 : n + m ≤ maxLen := by simp only [maxLen]; omega
  have grown : ∀ old : Nat, ∀ (row : Option Nat),
      (w.drew.alloc (.cells (xs.toArray ++ news.toArray ++ Builtin.zeroCells z.cells (grownCap w (n + m) old e - (n + m))) e)).ownsRow base e i.size
        (.slice (some ⟨w.heap.size, 0, none⟩) (n + m) (grownCap w (n + m) old e)) (n + m) (xs ++ news) ∧
      w.grownBy (w.drew.alloc (.cells (xs.toArray ++ news.toArray ++ Builtin.zeroCells z.cells (grownCap w (n + m) old e - (n + m))) e)) row := by
    intro old row
    refine ⟨⟨hlen, .inr ⟨w.heap.size, _, _, rfl, hbase, heap_alloc_new w.drew _, grownCap_ge w (n + m) old e, grownCap_le_maxLen w (n + m) old e h63, ?_, ?_⟩⟩, ⟨rfl, rfl, rfl, by simp, fun k hk _ => Below.heap_alloc w.drew _ k hk⟩⟩
    · have := grownCap_ge w (n + m) old e
      simp only [Array.size_append, List.size_toArray, size_zeroCells, ← hsz, hown.1, hl, ← Nat.add_mul]
      congr 1; omega
    · simp only [Array.toList_append, List.append_assoc]
      rw [← List.append_assoc, ← hlen]
      exact List.take_left
  rcases hown.2 with ⟨rfl, rfl⟩ | ⟨g, cap, cur, rfl, hbg, hg, hnc, hcm, hcs, htake⟩
  · have hx : xs = [] := List.eq_nil_of_length_eq_zero (by simpa using hown.1)
    subst hx
    by_cases hm : m = 0
    · subst hm
      have hn : news = [] := List.eq_nil_of_length_eq_zero (by simpa using hl)
      subst hn
      refine ⟨.slice none 0 0, w, ?_, World.ownsRow_nil w base e i.size, World.grownBy.refl _ _, fun b hb _ => hb⟩
      simp [Builtin.append_, run_underlying ht, sizeOf, typeInfo, hi, Builtin.lenOf, Builtin.firstCells, loadCells, loadCellsFrom]
    · have hr := run_append_nil (P := P) w t ty e i z ht hi hiz a m c news hl hnews (by omega) (by simp only [maxLen] at h63; omega) (by rw [Nat.zero_add] at hbytes; omega)
      have hgr := grown 0 (Value.ownBlock (.slice none 0 0))
      simp only [Nat.zero_add, List.nil_append, Array.empty_append] at hgr ⊢
      exact ⟨_, _, hr, hgr.1, hgr.2, fun b hb hlt => by cases hb; simp at hlt⟩
  · by_cases hroom : n + m ≤ cap
    · have hfit : n * i.size + news.length ≤ cur.size := by rw [hl, hcs, ← Nat.add_mul]; exact Nat.mul_le_mul_right _ hroom
      have hr := run_append_room (P := P) w t ty e i ht hi g n cap cur hg a m c news hl hnews h1 hroom hfit
      refine ⟨_, _, hr, ⟨hlen, .inr ⟨g, cap, _, rfl, hbg, setRow_heap w g cur _ e _ hg, hroom, hcm, ?_, ?_⟩⟩, ⟨rfl, rfl, rfl, by simp, fun k _ hk => setRow_other w g k _ (fun e => hk (by simp [Value.ownBlock, e]))⟩, fun b hb _ => hb⟩
      · simp only [List.size_toArray, List.length_append, List.length_take, List.length_drop, Array.length_toList]
        omega
      · rw [htake, ← hlen]
        exact List.take_left
    · have holds : ∀ j u, xs[j]? = some u → w.cell? ((⟨g, 0, none⟩ : Addr).add j) = some u := hown.cells (g := g) rfl
      have hr := run_append_grow (P := P) w t ty e i z ht hi hiz ⟨g, 0, none⟩ n cap xs hown.1 holds a m c news hl hnews (by omega) (by simp only [maxLen] at h63; omega) (growslice_fits (by omega) hbytes)
      have hgr := grown cap (Value.ownBlock (.slice (some ⟨g, 0, none⟩) n cap))
      exact ⟨_, _, hr, hgr.1, hgr.2, fun b hb hlt => by cases hb; simp at hlt⟩
end Go.Fv

/-
  Each operation's meaning over abstract states, and its law.
-/

namespace Go.Fv
open Go.RowKit
set_option linter.unusedVariables false
set_option linter.unusedSimpArgs false
set_option linter.unnecessarySimpa false

section
variable {P : Program} {w0 : World} {T0 : Nat → Prop} {o : Oper} {s : S} {K : AV → S → Prop}

theorem OpSem.mem (h : ∀ (H : List (AV × Value)) (a : Act) (w : World) (m : Nat → Value), RepM w0 T0 H s a w m →
      ∃ r v s' w' m', K r s' ∧ ((execOp a.eval o).run P w = .ok (.value v) w' ∨ ((execOp a.eval o).run P w = .ok .skip w' ∧ v = undef)) ∧ RepM w0 T0 ((r, v) :: H) s' a w' m') : OpSem P w0 T0 o s K := by
  intro H a w next Q ⟨m, hm⟩ hn
  obtain ⟨r, v, s', w', m', hk, hr, hv⟩ := h H a w m hm
  unfold Oper.wp
  rcases hr with hr | ⟨hr, rfl⟩
  · rw [hr]; exact hn r s' v w' hk ⟨m', hv⟩
  · rw [hr]; exact hn r s' undef w' hk ⟨m', hv⟩

def S.add (s : S) (it : Item) : S := { s with rows := (s.next, it) :: s.rows, next := s.next + 1 }
def S.swap (s : S) (i : Nat) (it : Item) : S := { s with rows := (s.next, it) :: del s.rows i, next := s.next + 1 }
def S.upd (s : S) (i : Nat) (it : Item) : S := { s with rows := put s.rows i it }

/-! ### move, pick, extract, functions -/
def vcMove (P : Program) (t : TypeId) (x : Operand) (s : S) (K : AV → S → Prop) : Prop :=
  match x with
  | .const (.slice none 0 0) =>
    match P.underlying t with
    | some (.slice e) => match zeroOf P e with
      | some z => Chk (ElemZ P e z) (K (.own s.next) (s.add (.row e (zrow z 0))))
      | none => False
    | _ => False
  | .const (.agg cs) => Chk (∀ v, v ∈ cs.toList → v.oneCell' = true ∧ strConstsOk v) (K (.agg (cs.toList.map ofV)) s)
  | x => Chk (opndOk x) (K (s.ev x) s)

theorem new_nil {H : List (AV × Value)} {a : Act} {w : World} {m : Nat → Value} (h : RepM w0 T0 H s a w m) {e : TypeId} {z : Value} (hz : ElemZ P e z) :
    RepM w0 T0 ((.own s.next, .slice none 0 0) :: H) (s.add (.row e (zrow z 0))) a w (Fv.upd m s.next (.slice none 0 0)) := by
  have h2 := h.new (w' := w) h.below (fun _ _ => rfl) (.row e (zrow z 0)) (.slice none 0 0) (fun b hb => by cases hb) (fun c _ hw => by
    obtain ⟨h1, h2, h3⟩ := zrow_ok c hz.ok 0
    exact ⟨0, [], by simpa using h1, h2, by rw [hw]; exact World.ownsRow_nil _ _ _ _⟩)
  refine h2.hold ?_
  have : (Fv.upd m s.next (.slice none 0 0)) s.next = .slice none 0 0 := upd_same _ _ _
  have hr : Rv (ctxOf T0 w0.heap.size (Fv.upd m s.next (.slice none 0 0)) (s.add (.row e (zrow z 0))) w) (.own s.next) ((Fv.upd m s.next (.slice none 0 0)) s.next) := .own _ (Nat.lt_succ_self _) (by show Value.oneCell' (Fv.upd m s.next (.slice none 0 0) s.next) = true; rw [this]; rfl)
  rw [this] at hr; exact hr

theorem vcMove_sound {x : Operand} (ho : o.op = .move x ∨ o.op = .assign x) (h : vcMove P o.type x s K) : OpSem P w0 T0 o s K := by
  have hrun : ∀ (ρ : Operand → Value) (w : World), (execOp ρ o).run P w = .ok (.value (ρ x)) w := by
    intro ρ w; unfold execOp; rcases ho with ho | ho <;> rw [ho] <;> rfl
  unfold vcMove at h
  split at h
  · split at h
    · split at h
      · obtain ⟨hz, hk⟩ := h
        refine OpSem.mem fun H a w m hm => ?_
        exact ⟨.own s.next, .slice none 0 0, _, w, _, hk, .inl (hrun _ _), new_nil hm hz⟩
      · exact h.elim
    · exact h.elim
  · obtain ⟨h1, hk⟩ := h
    refine OpSem.pure fun H a w m hm => ⟨_, _, hk, hrun _ _, ?_⟩
    have := zcell_rv (ctxOf T0 w0.heap.size m s w) h1
    simpa [Act.eval] using Rv.agg _ _ this
  · obtain ⟨h1, hk⟩ := h
    exact OpSem.pure fun H a w m hm => ⟨_, _, hk, hrun _ _, hm.ev x h1⟩

def vcPick (c x y : Operand) (s : S) (K : AV → S → Prop) : Prop :=
  match s.ev c with
  | .bool b => Chk (opndOk x ∧ opndOk y) (@Ite b ⟨K (s.ev x) s⟩ ⟨K (s.ev y) s⟩)
  | _ => False
theorem vcPick_still {c x y : Operand} (ho : o.op = .pick c x y) (hc : opndOk c) (h : vcPick c x y s K) : StillSem P w0 T0 o s K := by
  unfold vcPick at h
  intro H a w m hm
  have rc := hm.ev c hc
  revert h rc
  generalize s.ev c = ac
  intro h rc
  cases ac with
  | bool b =>
    obtain ⟨⟨hx, hy⟩, h⟩ := h
    generalize hvc : a.eval c = vc at rc
    cases rc
    have hrun : (execOp a.eval o).run P w = .ok (.value (if b then a.eval x else a.eval y)) w := by
      unfold execOp; rw [ho]; simp [hvc, asBool, Sem.run_bind, Result.andThen]
    cases b with
    | true => exact ⟨_, _, h.1 rfl, hrun, hm.ev x hx⟩
    | false => exact ⟨_, _, h.2 rfl, hrun, hm.ev y hy⟩
  | _ => exact h.elim
theorem vcPick_sound {c x y : Operand} (ho : o.op = .pick c x y) (hc : opndOk c) (h : vcPick c x y s K) : OpSem P w0 T0 o s K := (vcPick_still ho hc h).op

def vcExtract (x : Operand) (i : Nat) (s : S) (K : AV → S → Prop) : Prop :=
  match s.ev x with
  | .tup l => match l[i]? with
    | some v => K v s
    | none => False
  | _ => False
theorem vcExtract_still {x : Operand} {i : Nat} (ho : o.op = .extract x i) (hx : opndOk x) (h : vcExtract x i s K) : StillSem P w0 T0 o s K := by
  unfold vcExtract at h
  intro H a w m hm
  have rc := hm.ev x hx
  revert h rc
  generalize s.ev x = ac
  intro h rc
  cases ac with
  | tup l =>
    dsimp only at h
    generalize hvc : a.eval x = vc at rc
    cases rc with
    | tup _ vs hl =>
      cases hi : l[i]? with
      | none => rw [hi] at h; exact h.elim
      | some y =>
        rw [hi] at h
        obtain ⟨v, hv, hr⟩ := hl.get hi
        refine ⟨y, v, h, ?_, hr⟩
        unfold execOp; rw [ho]; simp [hvc, Instr.extract, hv, Sem.run_bind, Result.andThen]
  | _ => exact h.elim
theorem vcExtract_sound {x : Operand} {i : Nat} (ho : o.op = .extract x i) (hx : opndOk x) (h : vcExtract x i s K) : OpSem P w0 T0 o s K := (vcExtract_still ho hx h).op

def evs (s : S) (l : List Operand) : List AV := l.map s.ev
theorem RepM.evs {H : List (AV × Value)} {a : Act} {w : World} {m : Nat → Value} (hm : RepM w0 T0 H s a w m) : ∀ {l : List Operand}, (∀ x, x ∈ l → opndOk x) → RvT (ctxOf T0 w0.heap.size m s w) (evs s l) (l.map a.eval)
  | [], _ => .nil
  | x :: l, h => .cons _ _ _ _ (hm.ev x (h x (.head _))) (RepM.evs hm fun y hy => h y (.tail _ hy))

def vcMakeFunc (fn : Fn) (first captured : Array Operand) (s : S) (K : AV → S → Prop) : Prop :=
  match fn with
  | .func f => Chk (first = #[] ∧ ∀ x, x ∈ captured.toList → opndOk x) (K (.fn f (evs s captured.toList)) s)
  | _ => False
theorem vcMakeFunc_still {fn : Fn} {first captured : Array Operand} (ho : o.op = .makeFunc fn first captured) (h : vcMakeFunc fn first captured s K) : StillSem P w0 T0 o s K := by
  unfold vcMakeFunc at h
  cases fn with
  | func f =>
    obtain ⟨⟨rfl, hc⟩, hk⟩ := h
    intro H a w m hm
    refine ⟨.fn f (evs s captured.toList), .func (.func f) #[] ((captured.toList.map a.eval).toArray), hk, ?_, .fn f _ _ (hm.evs hc)⟩
    unfold execOp; rw [ho]; simp [Instr.makeFunc]; rw [← Array.toList_map]
  | _ => exact h.elim
theorem vcMakeFunc_sound {fn : Fn} {first captured : Array Operand} (ho : o.op = .makeFunc fn first captured) (h : vcMakeFunc fn first captured s K) : OpSem P w0 T0 o s K := (vcMakeFunc_still ho h).op

/-! ### Boxes -/
def boxable : AV → Option (List AV)
  | .agg cs => some cs
  | .bool b => some [.bool b]
  | .int k n => some [.int k n]
  | .str l => some [.str l]
  | .ro r => some [.ro r]
  | .own i => some [.own i]
  | .nilS => some [.nilS]
  | .fn f c => some [.fn f c]
  | .ptr i off => some [.ptr i off]
  | .elt i sz x off => some [.elt i sz x off]
  | .cell cs => some [.cell cs]
  | _ => none
theorem cells_of_one {v : Value} (h : v.oneCell' = true) : v.cells.toList = [v] := by
  cases v <;> first | rfl | exact absurd h (by simp [Value.oneCell'])
theorem boxable_ok {c : Ctx} {x : AV} {v : Value} {cs : List AV} (h : Rv c x v) (hb : boxable x = some cs) : RvL c cs v.cells.toList := by
  have one : ∀ (x : AV) (v : Value), Rv c x v → v.oneCell' = true → RvL c [x] v.cells.toList := fun x v hx h1 => by
    rw [cells_of_one h1]; exact .cons _ _ _ _ hx h1 .nil
  cases h with
  | agg cs' vs hl => cases hb; simpa [Value.cells] using hl
  | own i hi h1 => cases hb; exact one _ _ (.own i hi h1) h1
  | dead _ => cases hb
  | raw _ => cases hb
  | opt _ _ _ _ _ _ => cases hb
  | tup _ _ _ => cases hb
  | nilS => cases hb; exact one _ _ .nilS rfl
  | bool b => cases hb; exact one _ _ (.bool b) rfl
  | int k n hk => cases hb; exact one _ _ (.int k n hk) rfl
  | str l hl => cases hb; exact one _ _ (.str l hl) rfl
  | roNil r hr => cases hb; exact one _ _ (.roNil r hr) rfl
  | ro r a len cap cells h1 h2 h3 h4 h5 => cases hb; exact one _ _ (.ro r a len cap cells h1 h2 h3 h4 h5) rfl
  | cell cs vs a h1 h2 h3 => cases hb; exact one _ _ (.cell cs vs a h1 h2 h3) rfl
  | ptr i off g h1 h2 => cases hb; exact one _ _ (.ptr i off g h1 h2) rfl
  | elt i sz idx off g h1 h2 => cases hb; exact one _ _ (.elt i sz idx off g h1 h2) rfl
  | fn f cs vs h1 => cases hb; exact one _ _ (.fn f cs vs h1) rfl

theorem Below.allocB {w0 w : World} (h : Below w0.heap.size w0 w) (o : Obj) : Below w0.heap.size w0 (w.alloc o) := h.alloc h.size o

theorem new_box {H : List (AV × Value)} {a : Act} {w : World} {m : Nat → Value} (h : RepM w0 T0 H s a w m) {e : TypeId} {cs : List AV} {vs : List Value}
    (hl : RvL (ctxOf T0 w0.heap.size m s w) cs vs) :
    RepM w0 T0 ((.ptr s.next 0, .pointer (some ⟨w.heap.size, 0, none⟩)) :: H) (s.add (.box e cs)) a (w.alloc (.cells vs.toArray e)) (Fv.upd m s.next (.pointer (some ⟨w.heap.size, 0, none⟩))) := by
  have h2 := h.new (w' := w.alloc (.cells vs.toArray e)) (Below.allocB h.below _) (fun b hb => Below.heap_alloc w _ b hb) (.box e cs) (.pointer (some ⟨w.heap.size, 0, none⟩))
    (fun b hb => by cases hb; exact Nat.le_refl _) (fun c hle hw => by
      refine ⟨w.heap.size, vs, rfl, h.lt, hl.mono hle, by rw [hw]; exact heap_alloc_new w _⟩)
  refine h2.hold ?_
  exact .ptr _ _ _ (Nat.lt_succ_self _) (by show blk (Fv.upd m s.next _ s.next) = _; rw [upd_same]; rfl)

def vcBox (e : TypeId) (x : Operand) (s : S) (K : AV → S → Prop) : Prop :=
  match boxable (s.ev x) with
  | some cs => Chk (opndOk x) (K (.ptr s.next 0) (s.add (.box e cs)))
  | none => False
theorem vcBox_sound {e : TypeId} {x : Operand} (ho : o.op = .box e x) (h : vcBox e x s K) : OpSem P w0 T0 o s K := by
  unfold vcBox at h
  cases hb : boxable (s.ev x) with
  | none => rw [hb] at h; exact h.elim
  | some cs =>
    rw [hb] at h
    obtain ⟨hx, hk⟩ := h
    refine OpSem.mem fun H a w m hm => ?_
    have hl := boxable_ok (hm.ev x hx) hb
    refine ⟨_, _, _, _, _, hk, .inl ?_, new_box hm (e := e) hl⟩
    unfold execOp; rw [ho]
    simp [Instr.box, newVar, newRow]

def vcAlloc (P : Program) (e : TypeId) (s : S) (K : AV → S → Prop) : Prop :=
  match zeroOf P e with
  | some z => Chk (∀ v, v ∈ z.cells.toList → v.oneCell' = true ∧ strConstsOk v) (K (.ptr s.next 0) (s.add (.box e (z.cells.toList.map ofV))))
  | none => False
theorem vcAlloc_sound {e : TypeId} (ho : o.op = .alloc e) (h : vcAlloc P e s K) : OpSem P w0 T0 o s K := by
  unfold vcAlloc at h
  cases hz : zeroOf P e with
  | none => rw [hz] at h; exact h.elim
  | some z =>
    rw [hz] at h
    obtain ⟨h1, hk⟩ := h
    refine OpSem.mem fun H a w m hm => ?_
    refine ⟨_, _, _, _, _, hk, .inl ?_, new_box hm (e := e) (zcell_rv _ h1)⟩
    unfold zeroOf at hz
    cases hi : P.info? e with
    | none => rw [hi] at hz; cases hz
    | some i =>
      rw [hi] at hz
      have hz' : i.zero = some z := hz
      unfold execOp; rw [ho]
      simp [Instr.alloc, zeroValue, typeInfo, hi, hz', newVar, newRow]
end
end Go.Fv

/-
  Loads, stores, addresses of parts.
-/

namespace Go.Fv
open Go.RowKit
set_option linter.unusedVariables false
set_option linter.unusedSimpArgs false
set_option linter.unnecessarySimpa false

def spl : List AV → Nat → List AV → List AV
  | bs, _, [] => bs
  | bs, off, c :: cs => spl (bs.set off c) (off + 1) cs
theorem spl_length : ∀ (cs bs : List AV) (off : Nat), (spl bs off cs).length = bs.length
  | [], _, _ => rfl
  | c :: cs, bs, off => by simp [spl, spl_length cs]
def splV : List Value → Nat → List Value → List Value
  | bs, _, [] => bs
  | bs, off, c :: cs => splV (bs.set off c) (off + 1) cs
theorem splV_eq : ∀ (cs bs : List Value) (off : Nat), off + cs.length ≤ bs.length → splV bs off cs = bs.take off ++ cs ++ bs.drop (off + cs.length)
  | [], bs, off, _ => by simp [splV]
  | c :: cs, bs, off, h => by
    simp only [List.length_cons] at h
    rw [splV, splV_eq cs _ _ (by simp; omega), List.take_set, List.drop_set, if_pos (by omega)]
    rw [List.take_succ_eq_append_getElem (by omega), List.set_append_right _ _ (by simp; omega)]
    have e : off - (List.take off bs).length = 0 := by simp; omega
    rw [e]
    simp only [List.set_cons_zero, List.length_cons, List.append_assoc, List.cons_append, List.nil_append]
    have e2 : off + 1 + cs.length = off + (cs.length + 1) := by omega
    rw [e2]
theorem RvL.set {c : Ctx} : ∀ {l : List AV} {vs : List Value} (i : Nat) {x : AV} {v : Value}, RvL c l vs → Rv c x v → v.oneCell' = true → RvL c (l.set i x) (vs.set i v)
  | _, _, _, _, _, .nil, _, _ => .nil
  | _, _, 0, _, _, .cons _ _ _ _ _ _ t, hx, h1 => .cons _ _ _ _ hx h1 t
  | _, _, i + 1, _, _, .cons y u l vs h h1' t, hx, h1 => .cons y u _ _ h h1' (RvL.set i t hx h1)
theorem RvL.spl {c : Ctx} : ∀ {cs : List AV} {us : List Value} {l : List AV} {vs : List Value} (off : Nat), RvL c l vs → RvL c cs us → RvL c (Fv.spl l off cs) (splV vs off us)
  | _, _, _, _, _, h, .nil => h
  | _, _, _, _, off, h, .cons x v cs us hx h1 t => RvL.spl (off + 1) (h.set off hx h1) t

def setElem (r : RowV) (i off : Nat) (cs : List AV) : Option RowV :=
  match r with
  | .bools l => match cs with
    | [.bool b] => if off = 0 then some (.bools (l.set i b)) else none
    | _ => none
  | .ints k l => match cs with
    | [.int k' n] => if off = 0 ∧ k = k' then some (.ints k (l.set i n)) else none
    | _ => none
  | .strs l => match cs with
    | [.str t] => if off = 0 then some (.strs (l.set i t)) else none
    | _ => none
  | .objs sz l => if off + cs.length ≤ sz then some (.objs sz (l.set i (spl (l.getD i []) off cs))) else none

section
variable {P : Program} {w0 : World} {T0 : Nat → Prop} {o : Oper} {s : S} {K : AV → S → Prop}

def vcLoad (P : Program) (t : TypeId) (x : Operand) (s : S) (K : AV → S → Prop) : Prop :=
  match s.ev x with
  | .cell cs => ldCells P t cs (fun v => K v s)
  | .ptr i off => match lk s.rows i with
    | some (.box _ cs) => ldCells P t (cs.drop off) (fun v => K v s)
    | _ => False
  | .elt i sz idx off => match lk s.rows i with
    | some (.row _ r) => Chk (idx < r.len ∧ sz = r.sz) (ldCells P t ((elemA r idx).drop off) (fun v => K v s))
    | _ => False
  | _ => False

/-- The cells of an owned row. -/
theorem own_cells {w : World} {B : Nat} {e : TypeId} {size : Nat} {v : Value} {n : Nat} {xs : List Value} (h : w.ownsRow B e size v n xs) {g : Nat} (hg : blk v = some g) :
    ∀ j u, xs[j]? = some u → w.cell? ⟨g, j, none⟩ = some u := by
  intro j u hu
  have := h.cells (g := g) (by
    rcases h.2 with ⟨rfl, _⟩ | ⟨g', cap, cur, rfl, _⟩
    · cases hg
    · exact hg) j u hu
  simpa [Addr.add_lit] using this

theorem vcLoad_still {t : TypeId} {x : Operand} (ho : o.op = .load t x) (hx : opndOk x) (h : vcLoad P t x s K) : StillSem P w0 T0 o s K := by
  unfold vcLoad at h
  intro H a w m hm
  have rx := hm.ev x hx
  revert h rx
  generalize s.ev x = ax
  generalize hvx : a.eval x = vx
  intro h rx
  have fin : ∀ (ad : Addr) (cs : List AV) (vs : List Value), vx = .pointer (some ad) → ldCells P t cs (fun v => K v s) → RvL (ctxOf T0 w0.heap.size m s w) cs vs →
      (∀ j u, vs[j]? = some u → w.cell? (ad.add j) = some u) → ∃ r v, K r s ∧ (execOp a.eval o).run P w = .ok (.value v) w ∧ Rv (ctxOf T0 w0.heap.size m s w) r v := by
    intro ad cs vs he hl hv hc
    obtain ⟨r, v, hk, hr, hrv⟩ := ldCells_sound (c := ctxOf T0 w0.heap.size m s w) hl hv hc
    refine ⟨r, v, hk, ?_, hrv⟩
    have hr' : (loadVar t ad).run P w = .ok v w := hr
    unfold execOp; rw [ho]
    simp [hvx, he, Instr.loadAt, Instr.sureAddr, hr']
  cases ax with
  | cell cs =>
    cases rx with
    | cell _ vs ad hl hid hs => exact fin ad cs vs rfl h hl hs.2.2
  | ptr i off =>
    dsimp only at h
    cases hi : lk s.rows i with
    | none => rw [hi] at h; exact h.elim
    | some it =>
      rw [hi] at h
      cases it with
      | row e r => exact h.elim
      | box e cs =>
        dsimp only at h
        cases rx with
        | ptr _ _ g _ hg =>
          obtain ⟨g', vs, hv, _, hl, hh⟩ := (hm.rows i _ hi).2
          have hmi : blk (m i) = some g := hg
          rw [hv] at hmi; cases hmi
          refine fin _ _ (vs.drop off) rfl h (hl.drop off) fun j u hu => ?_
          rw [Addr.add_lit]
          rw [List.getElem?_drop] at hu
          have := cell_of_row w g' (off + j) vs.toArray e (0, 0) hh
          rw [this]; simpa using hu
  | elt i sz idx off =>
    dsimp only at h
    cases hi : lk s.rows i with
    | none => rw [hi] at h; exact h.elim
    | some it =>
      rw [hi] at h
      cases it with
      | box e cs => exact h.elim
      | row e r =>
        dsimp only at h
        obtain ⟨⟨hlt, rfl⟩, h⟩ := h
        cases rx with
        | elt _ _ _ _ g _ hg =>
          obtain ⟨n, cells, hr, hn, how⟩ := (hm.rows i _ hi).2
          have he := (hr.elem hlt).drop off
          refine fin _ _ _ rfl h he fun j u hu => ?_
          rw [Addr.add_lit]
          rw [List.getElem?_drop, List.getElem?_take] at hu
          split at hu
          · rw [List.getElem?_drop] at hu
            have := own_cells how hg _ _ hu
            have e : idx * r.sz + off + j = idx * r.sz + (off + j) := by omega
            rw [e]; exact this
          · cases hu
  | _ => exact h.elim
theorem vcLoad_sound {t : TypeId} {x : Operand} (ho : o.op = .load t x) (hx : opndOk x) (h : vcLoad P t x s K) : OpSem P w0 T0 o s K := (vcLoad_still ho hx h).op

def vcNil (x : Operand) (s : S) (K : AV → S → Prop) : Prop :=
  match s.ev x with
  | .cell cs => K (.cell cs) s
  | .ptr i off => K (.ptr i off) s
  | .elt i sz x off => K (.elt i sz x off) s
  | .fn f cs => K (.fn f cs) s
  | _ => False
theorem vcNil_still {x : Operand} (ho : o.op = .nilCheck x) (hx : opndOk x) (h : vcNil x s K) : StillSem P w0 T0 o s K := by
  unfold vcNil at h
  intro H a w m hm
  have rx := hm.ev x hx
  revert h rx
  generalize s.ev x = ax
  generalize hvx : a.eval x = vx
  intro h rx
  have fin : ∀ r, K r s → Rv (ctxOf T0 w0.heap.size m s w) r vx → ((∃ ad, vx = .pointer (some ad)) ∨ ∃ f cs, vx = .func (.func f) #[] cs) → ∃ r v, K r s ∧ (execOp a.eval o).run P w = .ok (.value v) w ∧ Rv (ctxOf T0 w0.heap.size m s w) r v := by
    intro r hk hr hp
    refine ⟨r, vx, hk, ?_, hr⟩
    unfold execOp; rw [ho]
    rcases hp with ⟨ad, rfl⟩ | ⟨f, cs, rfl⟩ <;> simp [hvx]
  cases ax with
  | cell cs => have rx' := rx; cases rx with | cell _ vs ad hl hid hs => exact fin _ h rx' (.inl ⟨ad, rfl⟩)
  | ptr i off => have rx' := rx; cases rx with | ptr _ _ g _ hg => exact fin _ h rx' (.inl ⟨_, rfl⟩)
  | elt i sz idx off => have rx' := rx; cases rx with | elt _ _ _ _ g _ hg => exact fin _ h rx' (.inl ⟨_, rfl⟩)
  | fn f cs => have rx' := rx; cases rx with | fn _ _ vs hl => exact fin _ h rx' (.inr ⟨_, _, rfl⟩)
  | _ => exact h.elim
theorem vcNil_sound {x : Operand} (ho : o.op = .nilCheck x) (hx : opndOk x) (h : vcNil x s K) : OpSem P w0 T0 o s K := (vcNil_still ho hx h).op

def vcFieldAddr (P : Program) (t : TypeId) (x : Operand) (k : Nat) (s : S) (K : AV → S → Prop) : Prop :=
  match P.underlying t with
  | some (.struct fs) => match fs[k]? with
    | some f => Chk (0 < P.cellsOf f.type) (match s.ev x with
      | .cell cs => K (.cell (cs.drop f.offset)) s
      | .ptr i off => K (.ptr i (off + f.offset)) s
      | .elt i sz idx off => K (.elt i sz idx (off + f.offset)) s
      | _ => False)
    | none => False
  | _ => False
theorem vcFieldAddr_still {t : TypeId} {x : Operand} {k : Nat} (ho : o.op = .fieldAddr t x k) (hx : opndOk x) (h : vcFieldAddr P t x k s K) : StillSem P w0 T0 o s K := by
  unfold vcFieldAddr at h
  cases ht : P.underlying t with
  | none => rw [ht] at h; exact h.elim
  | some d =>
    rw [ht] at h
    cases d with
    | struct fs =>
      dsimp only at h
      cases hf : fs[k]? with
      | none => rw [hf] at h; exact h.elim
      | some f =>
        rw [hf] at h
        obtain ⟨hp, h⟩ := h
        intro H a w m hm
        have rx := hm.ev x hx
        revert h rx
        generalize s.ev x = ax
        generalize hvx : a.eval x = vx
        intro h rx
        obtain ⟨i, hi⟩ := info_of_cells hp
        have hne : P.cellsOf f.type ≠ 0 := by omega
        have fin : ∀ r ad, vx = .pointer (some ad) → K r s → Rv (ctxOf T0 w0.heap.size m s w) r (.pointer (some (ad.add f.offset))) → ∃ r v, K r s ∧ (execOp a.eval o).run P w = .ok (.value v) w ∧ Rv (ctxOf T0 w0.heap.size m s w) r v := by
          intro r ad he hk hr
          refine ⟨r, _, hk, ?_, hr⟩
          unfold execOp; rw [ho]
          have hs := sizeOf_run (P := P) hi w
          simp [hvx, he, Instr.fieldAt, run_underlying ht, hf, Instr.sureAddr, fieldPlace, hs, hne]
        cases ax with
        | cell cs =>
          cases rx with
          | cell _ vs ad hl hid hs => exact fin _ ad rfl h (.cell _ _ _ (hl.drop f.offset) (noIdL_drop _ _ hid) (hs.drop f.offset))
        | ptr j off => cases rx with | ptr _ _ g hj hg => exact fin _ _ rfl h (by rw [Addr.add_lit]; exact .ptr _ _ _ hj hg)
        | elt j sz idx off => cases rx with | elt _ _ _ _ g hj hg => exact fin _ _ rfl h (by rw [Addr.add_lit, Nat.add_assoc]; exact .elt _ _ _ _ _ hj hg)
        | _ => exact h.elim
    | _ => exact h.elim
theorem vcFieldAddr_sound {t : TypeId} {x : Operand} {k : Nat} (ho : o.op = .fieldAddr t x k) (hx : opndOk x) (h : vcFieldAddr P t x k s K) : OpSem P w0 T0 o s K := (vcFieldAddr_still ho hx h).op

def vcIndexAddr (P : Program) (t : TypeId) (x i : Operand) (s : S) (K : AV → S → Prop) : Prop :=
  match P.underlying t, s.ev i with
  | some (.slice e), .int _ n => match s.ev x with
    | .ro r => Chk (0 ≤ n ∧ n < r.len ∧ P.cellsOf e = r.sz) (K (.cell (elemA r n.toNat)) s)
    | .own j => match lk s.rows j with
      | some (.row _ r) => Chk (0 ≤ n ∧ n < r.len ∧ P.cellsOf e = r.sz) (K (.elt j r.sz n.toNat 0) s)
      | _ => False
    | _ => False
  | some (.array len e), .int _ n => match s.ev x with
    | .ptr j off => Chk (0 ≤ n ∧ n < len ∧ 0 < P.cellsOf e) (K (.ptr j (off + n.toNat * P.cellsOf e)) s)
    | .cell cs => Chk (0 ≤ n ∧ n < len ∧ 0 < P.cellsOf e) (K (.cell (cs.drop (n.toNat * P.cellsOf e))) s)
    | .elt j sz idx off => Chk (0 ≤ n ∧ n < len ∧ 0 < P.cellsOf e) (K (.elt j sz idx (off + n.toNat * P.cellsOf e)) s)
    | _ => False
  | _, _ => False

theorem vcIndexAddr_still {t : TypeId} {x i : Operand} (ho : o.op = .indexAddr t x i) (hx : opndOk x) (hi : opndOk i) (h : vcIndexAddr P t x i s K) : StillSem P w0 T0 o s K := by
  unfold vcIndexAddr at h
  intro H a w m hm
  have rx := hm.ev x hx
  have ri := hm.ev i hi
  revert h rx ri
  generalize s.ev x = ax
  generalize hvx : a.eval x = vx
  generalize s.ev i = ai
  generalize hvi : a.eval i = vi
  intro h rx ri
  cases ht : P.underlying t with
  | none => rw [ht] at h; exact h.elim
  | some d =>
    rw [ht] at h
    cases d with
    | slice e =>
      cases ai with
      | int k n =>
        cases ri
        dsimp only at h
        have fin : ∀ r ad len cap, vx = .slice (some ad) len cap → 0 ≤ n → n < len → 0 < P.cellsOf e → K r s → Rv (ctxOf T0 w0.heap.size m s w) r (.pointer (some (ad.add (n.toNat * P.cellsOf e)))) → ∃ r v, K r s ∧ (execOp a.eval o).run P w = .ok (.value v) w ∧ Rv (ctxOf T0 w0.heap.size m s w) r v := by
          intro r ad len cap he h0 h1 hp hk hr
          refine ⟨r, _, hk, ?_, hr⟩
          obtain ⟨q, hq⟩ := info_of_cells hp
          have hs := sizeOf_run (P := P) hq w
          unfold execOp; rw [ho]
          simp [hvx, hvi, he, Instr.indexAt, asIntOf, run_underlying ht, h0, h1, hs]
        cases ax with
        | ro r =>
          obtain ⟨⟨h0, h1, h2⟩, hk⟩ := h
          cases rx with
          | roNil _ hr => have := hr.len; simp at this; have := hr.pos; rcases Nat.mul_eq_zero.1 (by omega : r.len * r.sz = 0) with e | e <;> omega
          | ro _ ad len cap cells hr hl hc hmx hs =>
            have hlt : n.toNat < r.len := by omega
            refine fin _ ad len cap rfl h0 (by omega) (by rw [h2]; exact hr.pos) hk (.cell _ _ _ (hr.elem hlt) hr.elemId ?_)
            rw [h2]
            exact (hs.drop _).take _
        | own j =>
          dsimp only at h
          cases hj : lk s.rows j with
          | none => rw [hj] at h; exact h.elim
          | some it =>
            rw [hj] at h
            cases it with
            | box e cs => exact h.elim
            | row e' r =>
              dsimp only at h
              obtain ⟨⟨h0, h1, h2⟩, hk⟩ := h
              obtain ⟨q, cells, hr, hn, how⟩ := (hm.rows j _ hj).2
              cases rx with
              | own _ hj2 _ =>
                have hlt : n.toNat < r.len := by omega
                rcases how.2 with ⟨hv, hq⟩ | ⟨g, cap, cur, hv, _⟩
                · omega
                · have hv' : (ctxOf T0 w0.heap.size m s w).m j = .slice (some ⟨g, 0, none⟩) q cap := hv
                  refine fin _ _ q cap hv h0 (by omega) (by rw [h2]; exact hr.pos) hk ?_
                  rw [Addr.add_lit, h2]
                  have := Rv.elt (c := ctxOf T0 w0.heap.size m s w) j r.sz n.toNat 0 g hj2 (by rw [hv']; rfl)
                  simpa using this
        | _ => exact h.elim
      | _ => exact h.elim
    | array len e =>
      cases ai with
      | int k n =>
        cases ri
        dsimp only at h
        have fin : ∀ r ad, vx = .pointer (some ad) → 0 ≤ n → n < len → 0 < P.cellsOf e → K r s → Rv (ctxOf T0 w0.heap.size m s w) r (.pointer (some (ad.add (n.toNat * P.cellsOf e)))) → ∃ r v, K r s ∧ (execOp a.eval o).run P w = .ok (.value v) w ∧ Rv (ctxOf T0 w0.heap.size m s w) r v := by
          intro r ad he h0 h1 hp hk hr
          refine ⟨r, _, hk, ?_, hr⟩
          obtain ⟨q, hq⟩ := info_of_cells hp
          have hs := sizeOf_run (P := P) hq w
          unfold execOp; rw [ho]
          simp [hvx, hvi, he, Instr.indexAt, asIntOf, run_underlying ht, h0, h1, hs, Instr.sureAddr]
        cases ax with
        | ptr j off =>
          obtain ⟨⟨h0, h1, h2⟩, hk⟩ := h
          cases rx with | ptr _ _ g hj hg => exact fin _ _ rfl h0 h1 h2 hk (by rw [Addr.add_lit]; exact .ptr _ _ _ hj hg)
        | cell cs =>
          obtain ⟨⟨h0, h1, h2⟩, hk⟩ := h
          cases rx with | cell _ vs ad hl hid hs => exact fin _ ad rfl h0 h1 h2 hk (.cell _ _ _ (hl.drop _) (noIdL_drop _ _ hid) (hs.drop _))
        | elt j sz idx off =>
          obtain ⟨⟨h0, h1, h2⟩, hk⟩ := h
          cases rx with | elt _ _ _ _ g hj hg => exact fin _ _ rfl h0 h1 h2 hk (by rw [Addr.add_lit, Nat.add_assoc]; exact .elt _ _ _ _ _ hj hg)
        | _ => exact h.elim
      | _ => exact h.elim
    | _ => exact h.elim
theorem vcIndexAddr_sound {t : TypeId} {x i : Operand} (ho : o.op = .indexAddr t x i) (hx : opndOk x) (hi : opndOk i) (h : vcIndexAddr P t x i s K) : OpSem P w0 T0 o s K := (vcIndexAddr_still ho hx hi h).op

end
end Go.Fv

/-
  Stores, makes, literal slices, append, len.
-/

namespace Go.Fv
open Go.RowKit
set_option linter.unusedVariables false
set_option linter.unusedSimpArgs false
set_option linter.unnecessarySimpa false

theorem splV_left : ∀ (us xs ys : List Value) (o : Nat), o + us.length ≤ xs.length → splV (xs ++ ys) o us = splV xs o us ++ ys
  | [], _, _, _, _ => rfl
  | u :: us, xs, ys, o, h => by
    simp only [List.length_cons] at h
    rw [splV, splV, List.set_append_left _ _ (by omega), splV_left us _ _ _ (by simp; omega)]
theorem splV_right : ∀ (us xs ys : List Value) (o : Nat), splV (xs ++ ys) (xs.length + o) us = xs ++ splV ys o us
  | [], _, _, _ => rfl
  | u :: us, xs, ys, o => by
    rw [splV, splV, List.set_append_right _ _ (by omega), Nat.add_sub_cancel_left, Nat.add_assoc, splV_right us]
theorem splV_length : ∀ (us xs : List Value) (o : Nat), (splV xs o us).length = xs.length
  | [], _, _ => rfl
  | u :: us, xs, o => by simp [splV, splV_length us]

theorem noIdL_set : ∀ (l : List AV) (i : Nat) (x : AV), noIdL l = true → noId x = true → noIdL (l.set i x) = true
  | [], _, _, _, _ => rfl
  | y :: l, 0, x, h, hx => by
    simp only [noIdL, Bool.and_eq_true] at h
    simp [noIdL, hx, h.2]
  | y :: l, i + 1, x, h, hx => by
    simp only [noIdL, Bool.and_eq_true] at h
    simp [noIdL, h.1, noIdL_set l i x h.2 hx]
theorem noIdL_spl : ∀ (cs l : List AV) (o : Nat), noIdL l = true → noIdL cs = true → noIdL (Fv.spl l o cs) = true
  | [], _, _, h, _ => h
  | c :: cs, l, o, h, hc => by
    simp only [noIdL, Bool.and_eq_true] at hc
    exact noIdL_spl cs _ _ (noIdL_set _ _ _ h hc.1) hc.2
theorem ObjsC.set {c : Ctx} {sz : Nat} : ∀ {l : List (List AV)} {cells : List Value} {i off : Nat} {cs : List AV} {us : List Value}, ObjsC c sz l cells → i < l.length → RvL c cs us → noIdL cs = true → off + us.length ≤ sz →
    ObjsC c sz (l.set i (Fv.spl (l.getD i []) off cs)) (splV cells (i * sz + off) us)
  | _, _, 0, off, cs, us, .cons _ o vs l cells h hid hl t, _, hu, hc, ho => by
    rw [Nat.zero_mul, Nat.zero_add, splV_left _ _ _ _ (by omega)]
    simp only [List.set_cons_zero, List.getD_cons_zero]
    exact .cons _ _ _ _ _ (h.spl off hu) (noIdL_spl _ _ _ hid hc) (by rw [splV_length]; exact hl) t
  | _, _, i + 1, off, cs, us, .cons _ o vs l cells h hid hl t, hi, hu, hc, ho => by
    have e : (i + 1) * sz + off = vs.length + (i * sz + off) := by rw [Nat.succ_mul, hl]; omega
    rw [e, splV_right]
    simp only [List.set_cons_succ, List.getD_cons_succ]
    exact .cons _ _ _ _ _ h hid hl (ObjsC.set t (by simpa using hi) hu hc ho)

theorem setElem_ok {c : Ctx} {r r' : RowV} {cells : List Value} {idx off : Nat} {cs : List AV} {us : List Value} (hr : RowC c r cells) (h : setElem r idx off cs = some r') (hu : RvL c cs us) (hid : noIdL cs = true)
    (hi : idx < r.len) : RowC c r' (splV cells (idx * r.sz + off) us) ∧ r'.len = r.len ∧ r'.sz = r.sz ∧ off + us.length ≤ r.sz := by
  cases hr with
  | bools l =>
    simp only [setElem] at h
    split at h <;> try (cases h; done)
    split at h <;> cases h
    rename_i e; subst e
    cases hu with
    | cons _ _ _ _ hx _ t =>
      cases hx; cases t
      refine ⟨?_, by simp [RowV.len], rfl, by simp [RowV.sz]⟩
      simp only [RowV.sz, Nat.mul_one, Nat.add_zero, splV]
      rw [← List.map_set]; exact .bools _
  | ints k l hk =>
    simp only [setElem] at h
    split at h <;> try (cases h; done)
    split at h <;> cases h
    rename_i e; obtain ⟨e, e2⟩ := e; subst e; subst e2
    cases hu with
    | cons _ _ _ _ hx _ t =>
      cases t
      cases hx with
      | int _ _ hin =>
        refine ⟨?_, by simp [RowV.len], rfl, by simp [RowV.sz]⟩
        simp only [RowV.sz, Nat.mul_one, Nat.add_zero, splV]
        rw [← List.map_set]
        exact .ints _ _ fun x hx => by
          rcases List.mem_or_eq_of_mem_set hx with h | h
          · exact hk x h
          · rw [h]; exact hin
  | strs l hs =>
    have key : ∀ q : List UInt8, q.length ≤ maxLen → RowC c (.strs (l.set idx q)) ((l.map fun s => Value.string ⟨s.toArray⟩).set idx (Value.string ⟨q.toArray⟩)) := by
      intro q hl
      have : (l.map fun s => Value.string ⟨s.toArray⟩).set idx (Value.string ⟨q.toArray⟩) = (l.set idx q).map fun s => Value.string ⟨s.toArray⟩ := (List.map_set ..).symm
      rw [this]
      exact .strs _ fun x hx => by
        rcases List.mem_or_eq_of_mem_set hx with h | h
        · exact hs x h
        · rw [h]; exact hl
    simp only [setElem] at h
    split at h <;> try (cases h; done)
    split at h <;> cases h
    rename_i e; subst e
    cases hu with
    | cons _ _ _ _ hx _ t =>
      cases t
      cases hx with
      | str _ hl =>
        exact ⟨by simpa only [RowV.sz, Nat.mul_one, Nat.add_zero, splV] using key _ hl, by simp [RowV.len], rfl, by simp [RowV.sz]⟩
  | objs sz l cells hz ho =>
    simp only [setElem] at h
    split at h <;> cases h
    rename_i hle
    have hlen := hu.length
    refine ⟨?_, by simp [RowV.len], rfl, by simp only [RowV.sz]; omega⟩
    simp only [RowV.sz]
    exact .objs _ _ _ hz (ho.set (by simpa [RowV.len] using hi) hu hid (by omega))
end Go.Fv

/-
  Stores, makes, append, len.
-/

namespace Go.Fv
open Go.RowKit
set_option linter.unusedVariables false
set_option linter.unusedSimpArgs false
set_option linter.unnecessarySimpa false

section
variable {P : Program} {w0 : World} {T0 : Nat → Prop} {o : Oper} {s : S} {K : AV → S → Prop}

def vcStore (P : Program) (t : TypeId) (x v : Operand) (s : S) (K : AV → S → Prop) : Prop :=
  match boxable (s.ev v) with
  | none => False
  | some cs => Chk (opndOk v ∧ 0 < P.cellsOf t ∧ P.cellsOf t = cs.length) (match s.ev x with
    | .ptr i off => match lk s.rows i with
      | some (.box e bs) => Chk (off + cs.length ≤ bs.length) (K .dead (s.upd i (.box e (spl bs off cs))))
      | _ => False
    | .elt i sz idx off => match lk s.rows i with
      | some (.row e r) => Chk (idx < r.len ∧ sz = r.sz ∧ noIdL cs = true) (match setElem r idx off cs with
        | some r' => K .dead (s.upd i (.row e r'))
        | none => False)
      | _ => False
    | _ => False)

theorem Below.setRow {w0 w : World} (h : Below w0.heap.size w0 w) {g : Nat} (hg : w0.heap.size ≤ g) (cs : Array Value) : Below w0.heap.size w0 (w.setRow g cs) :=
  h.trans ⟨rfl, rfl, rfl, by simp [World.setRow], fun k hk => setRow_other w g k cs (by omega)⟩

theorem vcStore_sound {t : TypeId} {x v : Operand} (ho : o.op = .store t x v) (hx : opndOk x) (h : vcStore P t x v s K) : OpSem P w0 T0 o s K := by
  unfold vcStore at h
  cases hb : boxable (s.ev v) with
  | none => rw [hb] at h; exact h.elim
  | some cs =>
    rw [hb] at h
    obtain ⟨⟨hv, hpos, hsz⟩, h⟩ := h
    refine OpSem.mem fun H a w m hm => ?_
    have hl := boxable_ok (hm.ev v hv) hb
    have rx := hm.ev x hx
    revert h rx
    generalize s.ev x = ax
    generalize hvx : a.eval x = vx
    intro h rx
    obtain ⟨inf, hinf⟩ := info_of_cells hpos
    have hsz' : (sizeOf t).run P w = .ok (P.cellsOf t) w := sizeOf_run hinf w
    have hcl : (a.eval v).cells.size = P.cellsOf t := by
      have := hl.length; rw [hsz]; simpa using this
    -- the store itself
    have run : ∀ (g off : Nat) (cur : Array Value) (e : TypeId), vx = .pointer (some ⟨g, off, none⟩) → w.heap[g]? = some (.cells cur e (0, 0)) → off + (a.eval v).cells.toList.length ≤ cur.size →
        (execOp a.eval o).run P w = .ok .skip (w.setRow g (splV cur.toList off (a.eval v).cells.toList).toArray) := by
      intro g off cur e he hg hle
      have hr := run_storeCells_at (P := P) g off e (a.eval v).cells.toList 0 cur w hg (by simpa using hle) hl.one
      rw [Nat.add_zero] at hr
      rw [splV_eq _ _ _ (by simpa using hle)]
      unfold execOp; rw [ho]
      simp [hvx, he, Instr.storeAt, Instr.sureAddr, storeVar, hsz', hcl, hr]
    cases ax with
    | ptr i off =>
      dsimp only at h
      cases hi : lk s.rows i with
      | none => rw [hi] at h; exact h.elim
      | some it =>
        rw [hi] at h
        cases it with
        | row e r => exact h.elim
        | box e bs =>
          dsimp only at h
          obtain ⟨hle, hk⟩ := h
          cases rx with
          | ptr _ _ g _ hg =>
            obtain ⟨g', vs, hv', hge, hlb, hh⟩ := (hm.rows i _ hi).2
            have hmi : blk (m i) = some g := hg
            rw [hv'] at hmi; cases hmi
            have hlen := hlb.length
            have hlc := hl.length
            refine ⟨.dead, undef, _, _, m, hk, .inr ⟨run g' off vs.toArray e rfl hh (by simp at hlc ⊢; omega), rfl⟩, ?_⟩
            refine (hm.upd (Below.setRow hm.below hge _) hi (fun b hb hne => setRow_other w g' b _ (fun e => hne (by rw [hv', e]; rfl))) _ (fun c hle' hw hmm hN => ?_)).hold (.dead _)
            refine ⟨g', splV vs off (a.eval v).cells.toList, hv', hge, RvL.spl off (hlb.mono hle') (hl.mono hle'), ?_⟩
            rw [hw]; exact setRow_heap w g' _ _ _ _ hh
    | elt i sz idx off =>
      dsimp only at h
      cases hi : lk s.rows i with
      | none => rw [hi] at h; exact h.elim
      | some it =>
        rw [hi] at h
        cases it with
        | box e bs => exact h.elim
        | row e r =>
          dsimp only at h
          obtain ⟨⟨hlt, rfl, hid⟩, h⟩ := h
          cases hs : setElem r idx off cs with
          | none => rw [hs] at h; exact h.elim
          | some r' =>
            rw [hs] at h
            cases rx with
            | elt _ _ _ _ g _ hg =>
              obtain ⟨n, cells, hr, hn, how⟩ := (hm.rows i _ hi).2
              obtain ⟨hr', hlen', hsz'', hoff⟩ := setElem_ok hr hs hl hid hlt
              have hcl' := hr.len
              have hblk : blk (m i) = some g := hg
              rcases how.2 with ⟨hv', _⟩ | ⟨g', cap, cur, hv', hge, hh, hnc, hcm, hcs, htake⟩
              · rw [hv'] at hblk; cases hblk
              · rw [hv'] at hblk; cases hblk
                have hxl : cells.length = n * r.sz := how.1
                have hin : idx * r.sz + off + (a.eval v).cells.toList.length ≤ cells.length := by
                  have : (idx + 1) * r.sz ≤ r.len * r.sz := Nat.mul_le_mul_right _ hlt
                  rw [Nat.succ_mul] at this
                  rw [hcl']; omega
                have hcur : cur.toList = cells ++ cur.toList.drop (n * r.sz) := by rw [← htake, List.take_append_drop]
                have hcurlen : cells.length ≤ cur.size := by
                  have := congrArg List.length hcur; simp at this; rw [hxl]; omega
                refine ⟨.dead, undef, _, _, m, h, .inr ⟨run g' _ cur e rfl hh (by omega), rfl⟩, ?_⟩
                refine (hm.upd (Below.setRow hm.below hge _) hi (fun b hb hne => setRow_other w g' b _ (fun e => hne (by rw [hv', e]; rfl))) _ (fun c hle' hw hmm hN => ?_)).hold (.dead _)
                refine ⟨n, splV cells (idx * r.sz + off) (a.eval v).cells.toList, hr'.mono hle', by rw [hlen', hn], ?_⟩
                refine ⟨by rw [splV_length, hsz'']; exact how.1, .inr ⟨g', cap, _, hv', hge, by rw [hw]; exact setRow_heap w g' _ _ _ _ hh, hnc, hcm, ?_, ?_⟩⟩
                · simp only [List.size_toArray, splV_length, Array.length_toList, hsz'']; exact hcs
                · rw [hsz'']
                  show List.take (n * r.sz) (splV cur.toList (idx * r.sz + off) (a.eval v).cells.toList) = _
                  conv => lhs; rw [hcur]
                  rw [splV_left _ _ _ _ hin]
                  have e2 : (splV cells (idx * r.sz + off) (a.eval v).cells.toList).length = n * r.sz := by rw [splV_length, hxl]
                  rw [← e2, List.take_left']
                  rfl
    | _ => exact h.elim

/-! ### make -/
def vcMake (P : Program) (t : TypeId) (l c : Operand) (s : S) (K : AV → S → Prop) : Prop :=
  match P.underlying t, s.ev l, s.ev c with
  | some (.slice e), .int _ n, .int _ n2 => match zeroOf P e with
    | some z => Chk (ElemZ P e z) (Chk (0 ≤ n ∧ n ≤ n2 ∧ n2 ≤ 137438953472) (K (.own s.next) (s.add (.row e (zrow z n.toNat)))))
    | none => False
  | _, _, _ => False

theorem zpos {z : Value} (h : zOk z) : 0 < z.cells.size := by
  cases z <;> first | exact h.2 | exact h.elim | exact Nat.one_pos

theorem hold_own {H : List (AV × Value)} {a : Act} {w : World} {s : S} {rows : List (Nat × Item)} {m : Nat → Value} {v : Value}
    (h : RepM w0 T0 H { s with rows := rows, next := s.next + 1 } a w (Fv.upd m s.next v)) (h1 : v.oneCell' = true) :
    RepM w0 T0 ((.own s.next, v) :: H) { s with rows := rows, next := s.next + 1 } a w (Fv.upd m s.next v) := by
  refine h.hold ?_
  have e : (Fv.upd m s.next v) s.next = v := upd_same _ _ _
  have hr : Rv (ctxOf T0 w0.heap.size (Fv.upd m s.next v) { s with rows := rows, next := s.next + 1 } w) (.own s.next) ((Fv.upd m s.next v) s.next) :=
    .own _ (Nat.lt_succ_self _) (by show Value.oneCell' (Fv.upd m s.next v s.next) = true; rw [e]; exact h1)
  rw [e] at hr; exact hr

theorem vcMake_sound {t : TypeId} {l c : Operand} (ho : o.op = .makeSlice t l c) (hl : opndOk l) (hc : opndOk c) (h : vcMake P t l c s K) : OpSem P w0 T0 o s K := by
  unfold vcMake at h
  refine OpSem.mem fun H a w m hm => ?_
  have rl := hm.ev l hl
  have rc := hm.ev c hc
  revert h rl rc
  generalize s.ev l = al
  generalize hvl : a.eval l = vl
  generalize s.ev c = ac
  generalize hvc : a.eval c = vc
  intro h rl rc
  cases ht : P.underlying t with
  | none => rw [ht] at h; exact h.elim
  | some d =>
    rw [ht] at h
    cases d with
    | slice e =>
      cases al with
      | int k n =>
        cases ac with
        | int k2 n2 =>
          cases rl; cases rc
          dsimp only at h
          cases hz : zeroOf P e with
          | none => rw [hz] at h; exact h.elim
          | some z =>
            rw [hz] at h
            obtain ⟨hez, ⟨h0, h1, h2⟩, hk⟩ := h
            obtain ⟨i, hi, hiz, his, hib⟩ := hez.ex
            have hb : (i.bytes : Int) * n2 ≤ 281474976710656 := by
              have h3 : (i.bytes : Int) * n2 ≤ 1024 * n2 := Int.mul_le_mul_of_nonneg_right (by omega) (by omega)
              omega
            have hr := run_make (P := P) w t e i z ht hi hiz k k2 n n2 h0 h1 hb (by omega)
            rw [his] at hr
            have hcells := madeCells_flat z.cells n2.toNat
            obtain ⟨hz1, hz2, hz3⟩ := zrow_ok (ctxOf T0 w0.heap.size m s w) hez.ok n.toNat
            have hnew := hm.new (w' := w.alloc (.cells (madeCells z.cells (n2.toNat * z.cells.size)) e)) (Below.allocB hm.below _) (fun b hb => Below.heap_alloc w _ b hb)
              (.row e (zrow z n.toNat)) (.slice (some ⟨w.heap.size, 0, none⟩) n.toNat n2.toNat) (fun b hb => by cases hb; exact Nat.le_refl _) (fun c' hle hw => by
                obtain ⟨q1, q2, q3⟩ := zrow_ok c' hez.ok n.toNat
                refine ⟨n.toNat, _, q1, q2, ?_⟩
                rw [hw, q3]
                refine ⟨by rw [replicate_flat]; simp, .inr ⟨w.heap.size, n2.toNat, madeCells z.cells (n2.toNat * z.cells.size), rfl, hm.lt, heap_alloc_new w _, by omega, by simp only [maxLen]; omega, by rw [size_madeCells], ?_⟩⟩
                rw [hcells]
                have e1 : n2.toNat = n.toNat + (n2.toNat - n.toNat) := by omega
                rw [e1, ← List.replicate_append_replicate, List.flatten_append]
                have e2 : ((List.replicate n.toNat z.cells.toList).flatten).length = n.toNat * z.cells.size := by rw [replicate_flat]; simp
                rw [← e2, List.take_left']; rfl)
            refine ⟨_, _, _, _, _, hk, .inl ?_, (hold_own hnew rfl)⟩
            unfold execOp; rw [ho]
            simp [hvl, hvc, hr]
        | _ => exact h.elim
      | _ => exact h.elim
    | _ => exact h.elim

/-! ### append -/
def rowOfAV (s : S) (i : Nat) (like : RowV) : AV → Option RowV
  | .ro r => some r
  | .own j => if j = i then none else match lk s.rows j with
    | some (.row _ r) => some r
    | _ => none
  | .nilS => some (subRow like 0 0)
  | _ => none

def vcAppend (P : Program) (t t2 : TypeId) (x y : Operand) (s : S) (K : AV → S → Prop) : Prop :=
  match P.underlying t, s.ev x with
  | some (.slice e), .own i => match lk s.rows i with
    | some (.row e' r) => match rowOfAV s i r (s.ev y) with
      | some r2 => match appRow r r2 with
        | some r3 => match zeroOf P e with
          | some z => Chk (ElemZ P e z) (Chk (t2 = t ∧ opndOk y ∧ e' = e ∧ r.sz = z.cells.size) (Chk (r3.len ≤ 137438953472) (K (.own s.next) (s.swap i (.row e r3)))))
          | none => False
        | none => False
      | none => False
    | _ => False
  | _, _ => False

theorem CellsAt.read {c : Ctx} {a : Addr} {cells : List Value} (h : CellsAt c a cells) : ∀ j u, cells[j]? = some u → c.w.cell? (a.add j) = some u := h.2.2

/-- What is appended: its cells, and where they lie. -/
theorem rowOfAV_ok {H : List (AV × Value)} {a : Act} {w : World} {m : Nat → Value} (hm : RepM w0 T0 H s a w m) {i : Nat} {like r2 : RowV} {y : AV} {v : Value} {lc : List Value} (hlike : RowC (ctxOf T0 w0.heap.size m s w) like lc)
    (hy : Rv (ctxOf T0 w0.heap.size m s w) y v) (h : rowOfAV s i like y = some r2) : ∃ cells, RowC (ctxOf T0 w0.heap.size m s w) r2 cells ∧
      ((v = .slice none 0 0 ∧ r2.len = 0) ∨ ∃ ad c, v = .slice (some ad) r2.len c ∧ ∀ j u, cells[j]? = some u → w.cell? (ad.add j) = some u) := by
  cases y with
  | ro r =>
    cases h
    cases hy with
    | roNil _ hr =>
      refine ⟨[], hr, .inl ⟨rfl, ?_⟩⟩
      have := hr.len; have := hr.pos; simp at *
      rcases Nat.mul_eq_zero.1 (by omega : r2.len * r2.sz = 0) with e | e <;> omega
    | ro _ ad len cap cells hr hl _ _ hs => exact ⟨cells, hr, .inr ⟨ad, cap, by rw [hl], hs.2.2⟩⟩
  | own j =>
    simp only [rowOfAV] at h
    split at h
    · cases h
    · cases hj : lk s.rows j with
      | none => rw [hj] at h; cases h
      | some it =>
        rw [hj] at h
        cases it with
        | box e cs => cases h
        | row e r =>
          cases h
          obtain ⟨n, cells, hr, hn, how⟩ := (hm.rows j _ hj).2
          cases hy with
          | own _ hj2 _ =>
            refine ⟨cells, hr, ?_⟩
            rcases how.2 with ⟨hv, hq⟩ | ⟨g, cap, cur, hv, _⟩
            · exact .inl ⟨hv, by omega⟩
            · refine .inr ⟨⟨g, 0, none⟩, cap, by rw [hn]; exact hv, how.cells (g := g) (by rw [hv]; rfl)⟩
  | nilS =>
    cases h
    cases hy
    exact ⟨_, hlike.sub 0 0, .inl ⟨rfl, by rw [subRow_len _ _ _ (Nat.zero_le _)]⟩⟩
  | _ => cases h

theorem vcAppend_sound {t t2 : TypeId} {x y : Operand} (ho : o.op = .call { callee := .builtin .append, args := #[x, y], argTypes := #[t, t2] }) (hx : opndOk x) (h : vcAppend P t t2 x y s K) : OpSem P w0 T0 o s K := by
  unfold vcAppend at h
  refine OpSem.mem fun H a w m hm => ?_
  have rx := hm.ev x hx
  cases ht : P.underlying t with
  | none => rw [ht] at h; exact h.elim
  | some d =>
    rw [ht] at h
    cases d with
    | slice e =>
      revert h rx
      generalize s.ev x = ax
      generalize hvx : a.eval x = vx
      intro rx h
      cases ax with
      | own i =>
        dsimp only at h
        cases hi : lk s.rows i with
        | none => rw [hi] at h; exact h.elim
        | some it =>
          rw [hi] at h
          cases it with
          | box _ _ => exact h.elim
          | row e' r =>
            dsimp only at h
            cases hy : rowOfAV s i r (s.ev y) with
            | none => rw [hy] at h; exact h.elim
            | some r2 =>
              rw [hy] at h
              dsimp only at h
              cases h3 : appRow r r2 with
              | none => rw [h3] at h; exact h.elim
              | some r3 =>
                rw [h3] at h
                dsimp only at h
                cases hz : zeroOf P e with
                | none => rw [hz] at h; exact h.elim
                | some z =>
                  rw [hz] at h
                  obtain ⟨hez, ⟨rfl, hoy, rfl, hrs⟩, hb, hk⟩ := h
                  obtain ⟨n, cells, hr, hn, how⟩ := (hm.rows i _ hi).2
                  obtain ⟨cells2, hr2, hsrc⟩ := rowOfAV_ok hm hr (hm.ev y hoy) hy
                  obtain ⟨hr3, hl3, hs3, hs2⟩ := appRow_ok hr hr2 h3
                  cases rx with
                  | own _ hj2 h1 =>
                    have hml : cells2.length = r2.len * r.sz := by rw [hr2.len, hs2]
                    obtain ⟨v', w', hrun, how', hgr, hbl⟩ := append_own (P := P) (w := w) (t := t2) (ty := o.type) ht hez hrs hr.pos how (a.eval y) r2.len cells2 hml hr2.one
                      (by
                        rcases hsrc with ⟨e1, e2⟩ | ⟨ad, c, e1, e2⟩
                        · exact .inl ⟨e1, e2⟩
                        · exact .inr ⟨ad, c, e1, e2⟩) (by omega) hm.lt
                    have hown1 : v'.oneCell' = true := by rcases how'.2 with ⟨e, _⟩ | ⟨_, _, _, e, _⟩ <;> rw [e] <;> rfl
                    have hbelow : Below w0.heap.size w0 w' := hm.below.grown hgr hm.lt (fun k hk => by
                      rcases how.2 with ⟨e, _⟩ | ⟨g, _, _, e, hge, _⟩
                      · rw [e] at hk; cases hk
                      · rw [e] at hk; cases hk; exact hge)
                    have hrep := hm.repl hbelow hi (fun b hb hne => hgr.block b hb (fun e => hne (by
                        rcases how.2 with ⟨e', _⟩ | ⟨g, _, _, e', _⟩
                        · rw [e'] at e; cases e
                        · rw [e'] at e ⊢; exact e.symm))) (.row e' r3) v' (fun b h1 h2 => hbl b h1 h2) (fun c hle hw => by
                          refine ⟨n + r2.len, cells ++ cells2, hr3.mono hle, by rw [hl3, hn], ?_⟩
                          rw [hw, hs3]; exact how')
                    refine ⟨_, _, _, _, _, hk, .inl ?_, hold_own hrep hown1⟩
                    unfold execOp; rw [ho]
                    have hvx' : a.eval x = m i := hvx
                    simp [resolve, invoke, builtin, hvx', hrun]
      | _ => exact h.elim
    | _ => exact h.elim

/-! ### len -/
def vcLen (P : Program) (t : TypeId) (x : Operand) (s : S) (K : AV → S → Prop) : Prop :=
  match P.underlying t, s.ev x with
  | some .string, .str l => Asm (l.length ≤ 9223372036854775807) (K (.int .i64 l.length) s)
  | some (.slice _), .ro r => Asm (r.len ≤ 9223372036854775807) (K (.int .i64 r.len) s)
  | some (.slice _), .own i => match lk s.rows i with
    | some (.row _ r) => Asm (r.len ≤ 9223372036854775807) (K (.int .i64 r.len) s)
    | _ => False
  | some (.slice _), .nilS => K (.int .i64 0) s
  | _, _ => False
theorem InK_nat {n : Nat} (h : n ≤ 9223372036854775807) : InK .i64 n := InK_i64.2 ⟨by omega, by omega⟩
theorem maxLen_eq : maxLen = 9223372036854775807 := by simp [maxLen]
theorem vcLen_still {t : TypeId} {x : Operand} (ho : o.op = .call { callee := .builtin .len, args := #[x], argTypes := #[t] }) (hx : opndOk x) (h : vcLen P t x s K) : StillSem P w0 T0 o s K := by
  unfold vcLen at h
  intro H a w m hm
  have rx := hm.ev x hx
  revert h rx
  generalize s.ev x = ax
  generalize hvx : a.eval x = vx
  intro h rx
  cases ht : P.underlying t with
  | none => rw [ht] at h; exact h.elim
  | some d =>
    rw [ht] at h
    have fin : ∀ n : Nat, n ≤ 9223372036854775807 → K (.int .i64 n) s → (Builtin.len_ #[t] o.type #[vx]).run P w = .ok (.int .i64 n) w → ∃ r v, K r s ∧ (execOp a.eval o).run P w = .ok (.value v) w ∧ Rv (ctxOf T0 w0.heap.size m s w) r v := by
      intro n hn hk hr
      refine ⟨_, _, hk, ?_, .int _ _ (InK_nat hn)⟩
      unfold execOp; rw [ho]
      simp [resolve, invoke, builtin, hvx, hr]
    cases d with
    | string =>
      cases ax with
      | str l =>
        cases rx with
        | str _ hl =>
          have hl' : l.length ≤ 9223372036854775807 := by rw [← maxLen_eq]; exact hl
          refine fin l.length hl' (h hl') ?_
          have e : (ByteArray.mk l.toArray).size = l.length := by show l.toArray.size = _; simp
          simp [Builtin.len_, run_underlying ht, goInt, e]
      | _ => exact h.elim
    | slice e =>
      cases ax with
      | ro r =>
        cases rx with
        | roNil _ hr =>
          have hz : r.len = 0 := by
            have h1 := hr.len; have h2 := hr.pos; simp at h1
            rcases Nat.mul_eq_zero.1 (by omega : r.len * r.sz = 0) with e | e <;> omega
          have hl' : r.len ≤ 9223372036854775807 := by omega
          refine fin r.len hl' (h hl') ?_
          simp [Builtin.len_, run_underlying ht, goInt, hz]
        | ro _ ad len cap cells hr hl hc hmx hs =>
          have hl' : r.len ≤ 9223372036854775807 := by rw [← maxLen_eq]; omega
          refine fin r.len hl' (h hl') ?_
          simp [Builtin.len_, run_underlying ht, goInt, hl]
      | own i =>
        dsimp only at h
        cases hi : lk s.rows i with
        | none => rw [hi] at h; exact h.elim
        | some it =>
          rw [hi] at h
          cases it with
          | box _ _ => exact h.elim
          | row e' r =>
            obtain ⟨n, cells, hr, hn, how⟩ := (hm.rows i _ hi).2
            cases rx with
            | own _ hj2 _ =>
              rcases how.2 with ⟨hv, hq⟩ | ⟨g, cap, cur, hv, _, _, hnc, hcm, _⟩
              · have hv' : (ctxOf T0 w0.heap.size m s w).m i = .slice none 0 0 := hv
                have hl' : r.len ≤ 9223372036854775807 := by omega
                refine fin r.len hl' (h hl') ?_
                rw [hv', hn, hq]
                simp [Builtin.len_, run_underlying ht, goInt]
              · have hv' : (ctxOf T0 w0.heap.size m s w).m i = .slice (some ⟨g, 0, none⟩) n cap := hv
                have hl' : r.len ≤ 9223372036854775807 := by rw [← maxLen_eq]; omega
                refine fin r.len hl' (h hl') ?_
                rw [hv', hn]
                simp [Builtin.len_, run_underlying ht, goInt]
      | nilS =>
        cases rx
        refine fin 0 (by omega) h ?_
        simp [Builtin.len_, run_underlying ht, goInt]
      | _ => exact h.elim
    | _ => cases ax <;> exact h.elim
theorem vcLen_sound {t : TypeId} {x : Operand} (ho : o.op = .call { callee := .builtin .len, args := #[x], argTypes := #[t] }) (hx : opndOk x) (h : vcLen P t x s K) : OpSem P w0 T0 o s K := (vcLen_still ho hx h).op

end
end Go.Fv
