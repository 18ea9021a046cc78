/-
  Rows that grow: append, make, literal slices.
-/
import Derived.Test.YtfebnhmnkgnofaaDoorFvMem
namespace Go.Fv
open Go.RowKit
set_option linter.unusedVariables false
set_option linter.unusedSimpArgs false
set_option linter.unnecessarySimpa false

def zeroOf (P : Program) (e : TypeId) : Option Value := (P.info? e).bind (·.zero)
def zOk : Value → Prop
  | .int k n => InK k n
  | .string s => s.size ≤ maxLen
  | .agg cs => (∀ v, v ∈ cs.toList → v.oneCell' = true ∧ strConstsOk v) ∧ 0 < cs.size
  | .tuple _ => False
  | _ => True
structure ElemZ (P : Program) (e : TypeId) (z : Value) : Prop where
  ex : ∃ i, P.info? e = some i ∧ i.zero = some z ∧ i.size = z.cells.size ∧ i.bytes ≤ 1024
  ok : zOk z
def zrow : Value → Nat → RowV
  | .bool b, n => .bools (List.replicate n b)
  | .int k x, n => .ints k (List.replicate n x)
  | .string s, n => .strs (List.replicate n s.data.toList)
  | .agg cs, n => .objs cs.size (List.replicate n (cs.toList.map ofV))
  | v, n => .objs 1 (List.replicate n [ofV v])
def appRow : RowV → RowV → Option RowV
  | .bools a, .bools b => some (.bools (a ++ b))
  | .ints k a, .ints k' b => if k = k' then some (.ints k (a ++ b)) else none
  | .strs a, .strs b => some (.strs (a ++ b))
  | .objs n a, .objs n' b => if n = n' then some (.objs n (a ++ b)) else none
  | _, _ => none

theorem appRow_ok {c : Ctx} {r r2 r3 : RowV} {cells cells2 : List Value} (h1 : RowC c r cells) (h2 : RowC c r2 cells2) (h : appRow r r2 = some r3) :
    RowC c r3 (cells ++ cells2) ∧ r3.len = r.len + r2.len ∧ r3.sz = r.sz ∧ r2.sz = r.sz := by
  cases h1 with
  | bools l =>
    cases h2 <;> simp only [appRow] at h <;> cases h
    rename_i l2
    refine ⟨?_, by simp [RowV.len], rfl, rfl⟩
    rw [← List.map_append]; exact .bools _
  | ints k l hk =>
    cases h2 <;> simp only [appRow] at h <;> try cases h
    rename_i k2 l2 hk2
    split at h <;> cases h
    rename_i e; subst e
    refine ⟨?_, by simp [RowV.len], rfl, rfl⟩
    rw [← List.map_append]
    exact .ints _ _ fun x hx => by
      cases List.mem_append.1 hx with
      | inl e => exact hk x e
      | inr e => exact hk2 x e
  | strs l hk =>
    cases h2 <;> simp only [appRow] at h <;> cases h
    rename_i l2 hk2
    refine ⟨?_, by simp [RowV.len], rfl, rfl⟩
    rw [← List.map_append]
    exact .strs _ fun x hx => by
      cases List.mem_append.1 hx with
      | inl e => exact hk x e
      | inr e => exact hk2 x e
  | objs sz l cells hz ho =>
    cases h2 <;> simp only [appRow] at h <;> try cases h
    rename_i sz2 l2 hz2 ho2
    split at h <;> cases h
    rename_i e; subst e
    exact ⟨.objs _ _ _ hz (ho.append ho2), by simp [RowV.len], rfl, rfl⟩

theorem zcell_rv (c : Ctx) : ∀ {cs : List Value}, (∀ v, v ∈ cs → v.oneCell' = true ∧ strConstsOk v) → RvL c (cs.map ofV) cs
  | [], _ => .nil
  | v :: cs, h => .cons _ _ _ _ (ofV_rv c v (h v (.head _)).2) (h v (.head _)).1 (zcell_rv c fun u hu => h u (.tail _ hu))

theorem replicate_flat {α : Type} (n : Nat) (l : List α) : ((List.replicate n l).flatten).length = n * l.length := by
  induction n with
  | zero => simp
  | succ n ih => simp [List.replicate_succ, ih, Nat.succ_mul, Nat.add_comm]

theorem ofV_noId (v : Value) : noId (ofV v) = true := by
  cases v with
  | int k n => simp only [ofV]; cases inKB k n <;> rfl
  | slice a l c =>
    cases a with
    | some a => rfl
    | none =>
      cases l with
      | succ l => rfl
      | zero => cases c <;> rfl
  | _ => rfl
theorem ofV_noIdL : ∀ cs : List Value, noIdL (cs.map ofV) = true
  | [] => rfl
  | v :: cs => by simp [noIdL, ofV_noId v, ofV_noIdL cs]
theorem objs_replicate {c : Ctx} {o : List AV} {vs : List Value} (h : RvL c o vs) (hid : noIdL o = true) (n : Nat) : ObjsC c vs.length (List.replicate n o) (List.replicate n vs).flatten := by
  induction n with
  | zero => exact .nil _
  | succ n ih => simpa [List.replicate_succ] using .cons _ o vs _ _ h hid rfl ih

theorem zrow_ok (c : Ctx) {z : Value} (h : zOk z) (n : Nat) : RowC c (zrow z n) (List.replicate n z.cells.toList).flatten ∧ (zrow z n).len = n ∧ (zrow z n).sz = z.cells.size := by
  have one : ∀ (v : Value), v.cells = #[v] → (List.replicate n v.cells.toList).flatten = List.replicate n v := by
    intro v hv; rw [hv]; clear h
    induction n with
    | zero => rfl
    | succ n ih => simpa [List.replicate_succ] using ih
  have gen : ∀ v : Value, v.cells = #[v] → v.oneCell' = true → strConstsOk v → RowC c (.objs 1 (List.replicate n [ofV v])) (List.replicate n v.cells.toList).flatten := by
    intro v hv h1 h2
    have := objs_replicate (c := c) (o := [ofV v]) (vs := [v]) (.cons _ _ _ _ (ofV_rv c v h2) h1 .nil) (by simpa using ofV_noIdL [v]) n
    rw [hv]
    exact .objs 1 _ _ (by omega) this
  cases z with
  | bool b => refine ⟨?_, by simp [zrow, RowV.len], rfl⟩; rw [one _ rfl]; simp only [zrow]; rw [← List.map_replicate]; exact .bools _
  | int k x =>
    refine ⟨?_, by simp [zrow, RowV.len], rfl⟩; rw [one _ rfl]; simp only [zrow]; rw [← List.map_replicate]
    exact .ints _ _ fun y hy => by rw [(List.mem_replicate.1 hy).2]; exact h
  | string s =>
    refine ⟨?_, by simp [zrow, RowV.len], rfl⟩; rw [one _ rfl]; simp only [zrow]
    have : List.replicate n (Value.string s) = (List.replicate n s.data.toList).map fun l => Value.string ⟨l.toArray⟩ := by rw [List.map_replicate]
    rw [this]
    exact .strs _ fun y hy => by rw [(List.mem_replicate.1 hy).2]; rw [Array.length_toList]; exact h
  | agg _ =>
    refine ⟨?_, by simp [zrow, RowV.len], rfl⟩
    simp only [zrow, Value.cells]
    have := objs_replicate (zcell_rv c h.1) (ofV_noIdL _) n
    exact .objs _ _ _ h.2 (by simpa using this)
  | tuple _ => exact h.elim
  | _ => exact ⟨gen _ rfl rfl trivial, by simp [zrow, RowV.len], rfl⟩

theorem madeCells_flat (z : Array Value) (n : Nat) : (madeCells z (n * z.size)).toList = (List.replicate n z.toList).flatten := by
  apply List.ext_getElem?
  intro j
  have hl : (madeCells z (n * z.size)).toList.length = n * z.size := by simp [size_madeCells]
  have hr : ((List.replicate n z.toList).flatten).length = n * z.size := by rw [replicate_flat]; simp
  by_cases hj : j < n * z.size
  · have e1 : (madeCells z (n * z.size)).toList[j]? = some (z[j % z.size]!) := by
      simp [madeCells, hj]
    rw [e1]
    have : ∀ (n j : Nat), j < n * z.size → ((List.replicate n z.toList).flatten)[j]? = some (z[j % z.size]!) := by
      intro n
      induction n with
      | zero => intro j hj; simp at hj
      | succ n ih =>
        intro j hj
        rw [List.replicate_succ, List.flatten_cons]
        by_cases h : j < z.size
        · rw [List.getElem?_append_left (by simpa using h), Nat.mod_eq_of_lt h]
          simp [h]
        · rw [List.getElem?_append_right (by simpa using h)]
          have := ih (j - z.size) (by rw [Nat.succ_mul] at hj; omega)
          simp only [Array.length_toList]
          rw [this, Nat.mod_eq_sub_mod (by omega : j ≥ z.size)]
    rw [this n j hj]
  · rw [List.getElem?_eq_none (by omega), List.getElem?_eq_none (by omega)]

/-- Append onto a row of the call's own: where it lies then is told. -/
theorem append_own {P : Program} {w : World} {base : Nat} {t ty e : TypeId} {z : Value} (ht : P.underlying t = some (.slice e)) (hz : ElemZ P e z)
    {v : Value} {n : Nat} {xs : List Value} {size : Nat} (hsz : size = z.cells.size) (hpos : 0 < size) (hown : w.ownsRow base e size v n xs)
    (src : Value) (m : Nat) (news : List Value) (hl : news.length = m * size) (h1 : ∀ u ∈ news, u.oneCell' = true)
    (hsrc : (src = .slice none 0 0 ∧ m = 0) ∨ ∃ a c, src = .slice (some a) m c ∧ ∀ j u, news[j]? = some u → w.cell? (a.add j) = some u)
    (hb : n + m ≤ 137438953472) (hbase : base ≤ w.heap.size) :
    ∃ v' w', (Builtin.append_ #[t, t] ty #[v, src]).run P w = .ok v' w' ∧ w'.ownsRow base e size v' (n + m) (xs ++ news) ∧ w.grownBy w' v.ownBlock ∧
      (∀ b, blk v' = some b → b < w.heap.size → blk v = some b) := by
  obtain ⟨i, hi, hiz, his, hib⟩ := hz.ex
  rcases hsrc with ⟨rfl, rfl⟩ | ⟨a, c, rfl, hnews⟩
  · have hn : news = [] := List.eq_nil_of_length_eq_zero (by simpa using hl)
    subst hn
    refine ⟨v, w, run_append_owned_none w base t ty e i size ht hi v n xs hown, by simpa using hown, World.grownBy.refl _ _, fun b hb _ => hb⟩
  have hbytes : (n + m) * i.bytes ≤ 140737488355328 := by
    have : (n + m) * i.bytes ≤ 137438953472 * 1024 := Nat.mul_le_mul hb hib
    omega
  have his' : i.size = size := by rw [his, hsz]
  subst his'
  have hlen : (xs ++ news).length = (n + m) * i.size := by rw [List.length_append, hown.1, hl, Nat.add_mul]
  have h63 : n + m ≤ maxLen := by simp only [maxLen]; omega
  have grown : ∀ old : Nat, ∀ (row : Option Nat),
      (w.drew.alloc (.cells (xs.toArray ++ news.toArray ++ Builtin.zeroCells z.cells (grownCap w (n + m) old e - (n + m))) e)).ownsRow base e i.size
        (.slice (some ⟨w.heap.size, 0, none⟩) (n + m) (grownCap w (n + m) old e)) (n + m) (xs ++ news) ∧
      w.grownBy (w.drew.alloc (.cells (xs.toArray ++ news.toArray ++ Builtin.zeroCells z.cells (grownCap w (n + m) old e - (n + m))) e)) row := by
    intro old row
    refine ⟨⟨hlen, .inr ⟨w.heap.size, _, _, rfl, hbase, heap_alloc_new w.drew _, grownCap_ge w (n + m) old e, grownCap_le_maxLen w (n + m) old e h63, ?_, ?_⟩⟩, ⟨rfl, rfl, rfl, by simp, fun k hk _ => Below.heap_alloc w.drew _ k hk⟩⟩
    · have := grownCap_ge w (n + m) old e
      simp only [Array.size_append, List.size_toArray, size_zeroCells, ← hsz, hown.1, hl, ← Nat.add_mul]
      congr 1; omega
    · simp only [Array.toList_append, List.append_assoc]
      rw [← List.append_assoc, ← hlen]
      exact List.take_left
  rcases hown.2 with ⟨rfl, rfl⟩ | ⟨g, cap, cur, rfl, hbg, hg, hnc, hcm, hcs, htake⟩
  · have hx : xs = [] := List.eq_nil_of_length_eq_zero (by simpa using hown.1)
    subst hx
    by_cases hm : m = 0
    · subst hm
      have hn : news = [] := List.eq_nil_of_length_eq_zero (by simpa using hl)
      subst hn
      refine ⟨.slice none 0 0, w, ?_, World.ownsRow_nil w base e i.size, World.grownBy.refl _ _, fun b hb _ => hb⟩
      simp [Builtin.append_, run_underlying ht, sizeOf, typeInfo, hi, Builtin.lenOf, Builtin.firstCells, loadCells, loadCellsFrom]
    · have hr := run_append_nil (P := P) w t ty e i z ht hi hiz a m c news hl hnews (by omega) (by simp only [maxLen] at h63; omega) (by rw [Nat.zero_add] at hbytes; omega)
      have hgr := grown 0 (Value.ownBlock (.slice none 0 0))
      simp only [Nat.zero_add, List.nil_append, Array.empty_append] at hgr ⊢
      exact ⟨_, _, hr, hgr.1, hgr.2, fun b hb hlt => by cases hb; simp at hlt⟩
  · by_cases hroom : n + m ≤ cap
    · have hfit : n * i.size + news.length ≤ cur.size := by rw [hl, hcs, ← Nat.add_mul]; exact Nat.mul_le_mul_right _ hroom
      have hr := run_append_room (P := P) w t ty e i ht hi g n cap cur hg a m c news hl hnews h1 hroom hfit
      refine ⟨_, _, hr, ⟨hlen, .inr ⟨g, cap, _, rfl, hbg, setRow_heap w g cur _ e _ hg, hroom, hcm, ?_, ?_⟩⟩, ⟨rfl, rfl, rfl, by simp, fun k _ hk => setRow_other w g k _ (fun e => hk (by simp [Value.ownBlock, e]))⟩, fun b hb _ => hb⟩
      · simp only [List.size_toArray, List.length_append, List.length_take, List.length_drop, Array.length_toList]
        omega
      · rw [htake, ← hlen]
        exact List.take_left
    · have holds : ∀ j u, xs[j]? = some u → w.cell? ((⟨g, 0, none⟩ : Addr).add j) = some u := hown.cells (g := g) rfl
      have hr := run_append_grow (P := P) w t ty e i z ht hi hiz ⟨g, 0, none⟩ n cap xs hown.1 holds a m c news hl hnews (by omega) (by simp only [maxLen] at h63; omega) (growslice_fits (by omega) hbytes)
      have hgr := grown cap (Value.ownBlock (.slice (some ⟨g, 0, none⟩) n cap))
      exact ⟨_, _, hr, hgr.1, hgr.2, fun b hb hlt => by cases hb; simp at hlt⟩
end Go.Fv
