/-
  A part of the proof of the claim: walks over the program's functions and the plain laws that these need. No condition of its own.
-/
import Derived.Test.YtmdaiceacfgkpaaGreatDoorFvPart10
import Derived.Shelf.SlSortCmp.Whole1
import Derived.Shelf.SlSortCmp.WholeK
import Derived.Shelf.SlSortCmp.NoneTotal
import Derived.DeepKeys4
import Derived.Maps.Keyed
import Derived.Test.YtmdaiceacfgkpaaGreatDoorFvPart9
import Derived.ChangeArms
import Derived.ChangeSlices
import Derived.Carry
import Derived.ProofKit
import Derived.Test.YtmdaiceacfgkpaaGreatDoorFvPart6
import Derived.Shelf.Vars
import Derived.Handed
/-
  The library's sort by a comparison (slices.SortFunc), by the shelf's contracts, as a contract that writes the caller's memory.
-/
namespace Go.Fv
set_option linter.unusedSectionVars false
set_option linter.unusedVariables false
set_option linter.unusedSimpArgs false
open Go.RowKit Go.Sort Go.Proofs Go.Shelf

section
variable {P : Program}
/-- One row is given and turned in its place; a function value is handed along. -/
theorem FnIO.placeF {β : Type} [Inhabited β] (enc : β → Value) {f : Nat} (hE : Enter P f) (e : TypeId) (r r' : RowV) (l l' : List β) (g : Nat) (caps : List AV) (hcn : noIdL caps = true) (n : Nat) (hll : l'.length = l.length)
    (hs : r'.sz = r.sz) (hrl : r.len = n) (hrl' : r'.len = n) (hln : l.length = n * r.sz)
    (hdown : ∀ c cells, RowC c r cells → cells = l.map enc) (hup : ∀ c c' cells, RowC c r cells → RowC c' r' (l'.map enc))
    (hrun : ∀ (w : World) (T : Nat → Prop) (gb cap : Nat) (cb : List Value), GlOk P w → (∀ b q, intGl P b = some q → b ≠ gb) → ¬ T gb → RvT ⟨w, T, fun _ => undef, 0⟩ caps cb → Holds enc w gb 0 l.toArray → gb < w.heap.size → 0 < n →
      Calls P f #[.slice (some ⟨gb, 0, none⟩) n cap, .func (.func g) #[] cb.toArray] w fun x w' => x = .returned (.tuple #[]) ∧ ∃ nn os, w' = grow (putRow enc (Sort.ahead w nn) gb 0 l'.toArray) os)
    (hnone : ∀ (w : World) (p : Option Addr) (cap : Nat) (fv : Value), Calls P f #[.slice p 0 cap, fv] w fun x w' => x = .returned (.tuple #[]) ∧ w' = w) :
    FnIO P f [.own 0, .fn g caps] [(0, .row e r)] 1 (.tup []) [(0, .row e r')] := by
  refine ⟨hE, fun w T gg m0 vals ⟨hrow, _, hd⟩ hgl hng hv => ?_⟩
  obtain ⟨_, k, cells, hr, hn, ⟨hlen, hcase⟩, hO⟩ := hrow 0 _ rfl
  have hcells := hdown _ _ hr
  subst hcells
  rw [hrl] at hn
  subst hn
  cases hv with
  | cons _ v0 _ vs h0 hvs =>
  cases hvs with
  | cons _ v1 _ vs h1v hvs =>
  cases hvs
  cases h1v with
  | fn _ _ cb hcb =>
  cases h0 with
  | own _ hi h1 =>
  have none_case : n = 0 → ∀ p cap, m0 0 = .slice p 0 cap → Calls P f [m0 0, .func (.func g) #[] cb.toArray].toArray w fun e_1 w' => ∃ v, e_1 = .returned v ∧ BelowG gg w w' ∧ ∃ m N, (∀ i, i < 1 → m i = m0 i) ∧ 1 ≤ N ∧
      Rv ⟨w', allow ⟨fun b => T b ∨ gg b, gg⟩ w.heap.size m [(0, .row e r')], m, N⟩ (.tup []) v ∧
      (∀ i it, lk [(0, Item.row e r')] i = some it → i < N ∧ ItemOk ⟨w', allow ⟨fun b => T b ∨ gg b, gg⟩ w.heap.size m [(0, .row e r')], m, N⟩ (ownB ⟨fun b => T b ∨ gg b, gg⟩ w.heap.size) (m i) it) ∧
      (∀ i j it jt b, lk [(0, Item.row e r')] i = some it → lk [(0, Item.row e r')] j = some jt → blk (m i) = some b → blk (m j) = some b → i = j) := by
    intro h00 p cap hm
    rw [show [m0 0, Value.func (.func g) #[] cb.toArray].toArray = #[m0 0, .func (.func g) #[] cb.toArray] from rfl, hm]
    refine (hnone w p cap _).mono ?_
    rintro x w' ⟨rfl, rfl⟩
    have hl0 : l = [] := List.eq_nil_of_length_eq_zero (by rw [hln, h00, Nat.zero_mul])
    have hl'0 : l' = [] := List.eq_nil_of_length_eq_zero (by rw [hll, hl0]; rfl)
    refine ⟨_, rfl, BelowG.refl _ _, m0, 1, fun _ _ => rfl, Nat.le_refl _, .tup [] [] .nil, ?_, ?_⟩
    · intro i it hi
      have hi0 : i = 0 := by
        simp only [lk] at hi
        split at hi
        · rename_i h; exact h.symm
        · cases hi
      subst hi0
      have : it = Item.row e r' := by simp [lk] at hi; exact hi.symm
      subst this
      have hr' := hup _ ⟨w', allow ⟨fun b => T b ∨ gg b, gg⟩ w'.heap.size m0 [(0, .row e r')], m0, 1⟩ _ hr
      rw [hl'0] at hr'
      refine ⟨by omega, 0, [], hr', by omega, ?_, fun b hb => .inr ⟨hO b hb, .inr (hO b hb)⟩⟩
      rcases hcase with ⟨hv, _⟩ | ⟨g0, cap', cur, fz, hv, hMk, hh, hnc, hcm, hcs, htk⟩
      · exact ⟨by simp, .inl ⟨hv, rfl⟩⟩
      · refine ⟨by simp, .inr ⟨g0, cap', cur, fz, by rw [hv, h00], hMk, hh, by omega, hcm, by rw [hcs, hs], by simp⟩⟩
    · intro i j it jt b hi hj _ _
      have aux : ∀ q x, lk [(0, Item.row e r')] q = some x → q = 0 := by
        intro q x hq
        simp only [lk] at hq
        split at hq
        · rename_i h; exact h.symm
        · cases hq
      rw [aux i it hi, aux j jt hj]
  rcases hcase with ⟨hv, h00⟩ | ⟨g0, cap, cur, fz, hv, hMk, hh, hnc, hcm, hcs, htk⟩
  · exact none_case h00 _ _ hv
  · by_cases h00 : n = 0
    · exact none_case h00 _ cap (by rw [hv, h00])
    have hlt : g0 < w.heap.size := (Array.getElem?_eq_some_iff.1 hh).1
    have hle : n * r.sz ≤ cap * r.sz := Nat.mul_le_mul_right _ hnc
    have hcell : ∀ j, j < l.length → cur[j]? = some (enc l.toArray[j]!) := by
      intro j hj
      have h1 : (cur.toList.take (n * r.sz))[j]? = (l.map enc)[j]? := by rw [htk]
      rw [List.getElem?_take_of_lt (by omega), List.getElem?_map, Array.getElem?_toList] at h1
      rw [h1]; simp [hj]
    have hH : Holds enc w g0 0 l.toArray := by
      intro j hj
      have hj' : j < l.length := by simpa using hj
      constructor
      · simp [World.cell?, hh, hcell j hj']
      · simp only [World.frozen?, hh]
        rcases hMk with rfl | hMk
        · simp
        · obtain ⟨lo, hi⟩ := fz
          have : cur.size ≤ lo := hMk
          simp; omega
    have hgO := hO g0 (by rw [hv]; rfl)
    have hcb0 : RvT ⟨w, T, fun _ => undef, 0⟩ caps cb := RvT.noid (c := ⟨w, T, m0, 1⟩) (c' := ⟨w, T, fun _ => undef, 0⟩) (fun b hb _ => ⟨hb, rfl⟩) hcb hcn
    rw [show [m0 0, Value.func (.func g) #[] cb.toArray].toArray = #[m0 0, .func (.func g) #[] cb.toArray] from rfl, hv]
    refine (hrun w T g0 cap cb hgl (fun b q hq e => hng b q hq (by rw [e]; exact hgO)) (fun hT => hd g0 hT hgO) hcb0 hH hlt (by omega)).mono ?_
    rintro x w' ⟨rfl, nn, os, rfl⟩
    have hnh := sorted_heap enc w nn g0 l'.toArray os hh
    refine ⟨_, rfl, ⟨rfl, rfl, rfl, by simp, Nat.le_add_right _ _, fun k hk hng' => sorted_other enc w nn g0 _ os hk fun e => hng' (e ▸ hgO)⟩, m0, 1, fun _ _ => rfl, Nat.le_refl _, .tup [] [] .nil, ?_, ?_⟩
    · intro i it hi
      have hi0 : i = 0 := by
        simp only [lk] at hi
        split at hi
        · rename_i h; exact h.symm
        · cases hi
      subst hi0
      have : it = Item.row e r' := by simp [lk] at hi; exact hi.symm
      subst this
      have hr' := hup _ ⟨grow (putRow enc (Sort.ahead w nn) g0 0 l'.toArray) os, allow ⟨fun b => T b ∨ gg b, gg⟩ w.heap.size m0 [(0, .row e r')], m0, 1⟩ _ hr
      refine ⟨by omega, n, l'.map enc, hr', hrl', ?_, fun b hb => .inr ⟨hO b hb, .inr (hO b hb)⟩⟩
      rw [hs]
      refine ⟨by simp [hll, hln], .inr ⟨g0, cap, _, fz, hv, by rw [putCells_size]; exact hMk, hnh, hnc, hcm, by rw [putCells_size, hcs], ?_⟩⟩
      exact putCells_take enc l' cur _ (by rw [hll, hln]) (by omega)
    · intro i j it jt b hi hj _ _
      have aux : ∀ q x, lk [(0, Item.row e r')] q = some x → q = 0 := by
        intro q x hq
        simp only [lk] at hq
        split at hq
        · rename_i h; exact h.symm
        · cases hq
      rw [aux i it hi, aux j jt hj]

/-- A world behind a call that turns nothing: it has grown, and drawn. -/
theorem grown_of_below {w w' : World} (h : BelowD w.heap.size w w') : ∃ q os, w' = grow (w.drewN q) os := by
  refine ⟨w'.drawn - w.drawn, w'.heap.extract w.heap.size w'.heap.size, ?_⟩
  have hd := h.drawn
  have hs := h.size
  have hheap : w'.heap = w.heap ++ w'.heap.extract w.heap.size w'.heap.size := by
    apply Array.ext_getElem?
    intro i
    by_cases hi : i < w.heap.size
    · rw [h.block i hi, Array.getElem?_append_left hi]
    · rw [Array.getElem?_append_right (by omega), Array.getElem?_extract]
      by_cases hj : i < w'.heap.size
      · rw [if_pos (by omega)]; congr 1; omega
      · rw [if_neg (by omega), Array.getElem?_eq_none (by omega)]
  have e1 := h.os; have e2 := h.tape; have e3 := h.output
  obtain ⟨heap, tape, drawn, os, output⟩ := w
  obtain ⟨heap', tape', drawn', os', output'⟩ := w'
  simp only at *
  subst e1 e2 e3
  show (⟨heap', _, drawn', _, _⟩ : World) = ⟨heap ++ _, _, drawn + (drawn' - drawn), _, _⟩
  rw [← hheap, show drawn + (drawn' - drawn) = drawn' by omega]
  rfl
theorem putRow_block {β : Type} [Inhabited β] (enc : β → Value) (w : World) (m gb : Nat) (d : Array β) (os : Array Obj) {k : Nat} (hk : k < w.heap.size) (hne : k ≠ gb) : (grow (putRow enc (Sort.ahead w m) gb 0 d) os).heap[k]? = w.heap[k]? :=
  sorted_other enc w m gb d os hk (Ne.symm hne)
/-- What a comparison hands back, in whatever world of the sort. -/
theorem cmp_calls {β : Type} [Inhabited β] (enc : β → Value) {g : Nat} {caps args : List AV} {cf : Int} (h : FnFr P g (args ++ caps) (.int .i64 cf) []) {w : World} {T : Nat → Prop} {gb : Nat} {cb vals : List Value} (hgl : GlOk P w) (hng : ∀ b q, intGl P b = some q → b ≠ gb) (hT : ¬ T gb)
    (hcb : RvT ⟨w, T, fun _ => undef, 0⟩ caps cb) (hvals : ∀ c : Ctx, RvT c args vals) (m : Nat) (os : Array Obj) (d : Array β) :
    Calls P g (vals.toArray ++ cb.toArray) (grow (putRow enc (Sort.ahead w m) gb 0 d) os) fun e w' => e = .returned (.int .i64 cf) ∧ ∃ q os', w' = grow ((grow (putRow enc (Sort.ahead w m) gb 0 d) os).drewN q) os' := by
  have hgl' : GlOk P (grow (putRow enc (Sort.ahead w m) gb 0 d) os) := by
    intro b q hq
    obtain ⟨n, t, hk, hh⟩ := hgl b q hq
    exact ⟨n, t, hk, by rw [putRow_block enc w m gb d os (Array.getElem?_eq_some_iff.1 hh).1 (hng b q hq)]; exact hh⟩
  have hle : CtxLe (⟨w, T, fun _ => undef, 0⟩ : Ctx) ⟨grow (putRow enc (Sort.ahead w m) gb 0 d) os, T, fun _ => undef, 0⟩ :=
    ⟨Nat.le_refl _, fun _ _ => rfl, fun b hb hlt => ⟨hb, putRow_block enc w m gb d os hlt fun e => hT (e ▸ hb)⟩⟩
  have happ : ∀ {c : Ctx} {xs ys : List AV} {us vs : List Value}, RvT c xs us → RvT c ys vs → RvT c (xs ++ ys) (us ++ vs) := by
    intro c xs
    induction xs with
    | nil => intro ys us vs h1 h2; cases h1; exact h2
    | cons x xs ih => intro ys us vs h1 h2; cases h1 with | cons _ v _ vs' hv ht => exact .cons _ _ _ _ hv (ih ht h2)
  have hc := h.2 _ T (vals ++ cb) hgl' (happ (hvals _) (hcb.mono hle))
  rw [List.append_toArray] at *
  refine hc.mono ?_
  rintro e w' ⟨v, rfl, hb, mm, N, hr, _⟩
  cases hr
  exact ⟨rfl, grown_of_below hb⟩

/-! ### Values without an inside -/
def plainV : AV → Option Value
  | .int k n => some (.int k n)
  | .str s => some (.string ⟨s.toArray⟩)
  | .bool b => some (.bool b)
  | _ => none
def PlainOk : AV → Prop
  | .int k n => InK k n
  | .str s => s.length ≤ maxLen
  | .bool _ => True
  | _ => False
def encV (x : AV) : Value := (plainV x).getD undef
theorem plain_down {c : Ctx} {x : AV} {v : Value} (h : PlainOk x) (hr : Rv c x v) : v = encV x := by
  cases hr <;> first | rfl | exact h.elim
theorem plain_up {c : Ctx} {x : AV} (h : PlainOk x) : Rv c x (encV x) := by
  cases x <;> first | exact h.elim | skip
  · exact .bool _
  · exact .int _ _ h
  · exact .str _ h
theorem plain_one {x : AV} (h : PlainOk x) : (encV x).oneCell' = true := by
  cases x <;> first | exact h.elim | rfl
theorem plainL_down {c : Ctx} {x : List AV} {v : List Value} (h : ∀ y, y ∈ x → PlainOk y) (hr : RvL c x v) : v = x.map encV := by
  induction x generalizing v with
  | nil => cases hr; rfl
  | cons x l ih =>
    cases hr with
    | cons _ v _ vs hx h1 ht => rw [List.map_cons, plain_down (h x (.head _)) hx, ih (fun y hy => h y (.tail _ hy)) ht]
theorem plainL_up {c : Ctx} : ∀ {x : List AV}, (∀ y, y ∈ x → PlainOk y) → RvL c x (x.map encV)
  | [], _ => .nil
  | x :: l, h => .cons _ _ _ _ (plain_up (h x (.head _))) (plain_one (h x (.head _))) (plainL_up fun y hy => h y (.tail _ hy))
theorem plainO_down {c : Ctx} {sz : Nat} {l : List (List AV)} {cells : List Value} (h : ∀ o, o ∈ l → ∀ y, y ∈ o → PlainOk y) (hr : ObjsC c sz l cells) : cells = (l.map fun o => o.map encV).flatten := by
  induction l generalizing cells with
  | nil => cases hr; rfl
  | cons o l ih =>
    cases hr with
    | cons _ _ vs _ cells ho hl ht => rw [List.map_cons, List.flatten_cons, plainL_down (h o (.head _)) ho, ih (fun y hy => h y (.tail _ hy)) ht]
theorem plainO_up {c : Ctx} {sz : Nat} : ∀ {l : List (List AV)}, (∀ o, o ∈ l → o.length = sz ∧ ∀ y, y ∈ o → PlainOk y) → ObjsC c sz l (l.map fun o => o.map encV).flatten
  | [], _ => .nil _
  | o :: l, h => by
    rw [List.map_cons, List.flatten_cons]
    exact .cons sz o _ l _ (plainL_up (h o (.head _)).2) (by rw [List.length_map]; exact (h o (.head _)).1) (plainO_up fun y hy => h y (.tail _ hy))

/-! ### The sort -/
/-- Sorted by a comparison: no later one is less than an earlier one. -/
def SortedBy {τ : Type} (cf : τ → τ → Int) (l : List τ) : Prop := l.Pairwise fun x y => ¬ cf y x < 0
theorem sortedIn_pairwise {α : Type} [Inhabited α] {lt : α → α → Bool} {d : Array α} (h : SortedIn lt 0 d.size d) : d.toList.Pairwise fun x y => lt y x = false := by
  refine List.pairwise_iff_getElem.2 fun i j hi hj hij => ?_
  have := h i j (Nat.zero_le _) hij (by simpa using hj)
  rw [getElem!_pos d i (by simpa using hi), getElem!_pos d j (by simpa using hj)] at this
  simpa using this
structure CmpOrd {τ : Type} (good : τ → Prop) (cf : τ → τ → Int) : Prop where
  irrefl : ∀ x, good x → ¬ cf x x < 0
  trans : ∀ x y z, good x → good y → good z → cf x y < 0 → cf y z < 0 → cf x z < 0
  ntrans : ∀ x y z, good x → good y → good z → ¬ cf x y < 0 → ¬ cf y z < 0 → ¬ cf x z < 0
theorem CmpOrd.swo {τ : Type} {good : τ → Prop} {cf : τ → τ → Int} (h : CmpOrd good cf) : SWO (ltOf fun (x y : {x : τ // good x}) => cf x.1 y.1) where
  irrefl := fun x => decide_eq_false (h.irrefl x.1 x.2)
  trans := fun x y z h1 h2 => decide_eq_true (h.trans _ _ _ x.2 y.2 z.2 (of_decide_eq_true h1) (of_decide_eq_true h2))
  ntrans := fun x y z h1 h2 => decide_eq_false (h.ntrans _ _ _ x.2 y.2 z.2 (of_decide_eq_false h1) (of_decide_eq_false h2))
/-- What the library's sort makes of a list. -/
theorem pdq_list {τ : Type} {good : τ → Prop} {cf : τ → τ → Int} (h : CmpOrd good cf) [Inhabited {x : τ // good x}] (d : List {x : τ // good x}) (a : Array {x : τ // good x})
    (ha : a = Sort.pdq (ltOf fun (x y : {x : τ // good x}) => cf x.1 y.1) d.toArray 0 d.toArray.size (Lib.bitLen d.toArray.size) true true) :
    a.toList.Perm d ∧ a.toList.Pairwise (fun x y => ¬ cf y.1 x.1 < 0) := by
  have hp := pdq_sorts (ltOf fun (x y : {x : τ // good x}) => cf x.1 y.1) h.swo d.toArray 0 d.toArray.size (Lib.bitLen d.toArray.size) true true (Nat.zero_le _) (Nat.le_refl _) (Or.inl rfl)
  rw [← ha] at hp
  obtain ⟨⟨h1, _, h3⟩, h4⟩ := hp
  constructor
  · rw [Array.extract_size, ← h1, Array.extract_size] at h3
    exact h3
  · rw [← h1] at h4
    exact (sortedIn_pairwise (lt := ltOf fun (x y : {x : τ // good x}) => cf x.1 y.1) h4).imp fun {x y} hxy => of_decide_eq_false hxy

theorem entersG {g : Nat} (h : Enter P g) : ∀ args w, (callFunc g args).run P w = .ok (.enter g args) w := by
  obtain ⟨fn, h1, h2, h3⟩ := h
  cases hb : fn.body with
  | none => rw [hb] at h2; cases h2
  | some c => exact enters_of h1 h3 hb
theorem attachWith_val {τ : Type} {good : τ → Prop} {l : List τ} (h : ∀ x, x ∈ l → good x) : (l.attachWith good h).map Subtype.val = l := by
  rw [List.attachWith_map_subtype_val]
theorem flatten_get {α : Type} [Inhabited α] {k : Nat} : ∀ (L : List (List α)), (∀ o, o ∈ L → o.length = k) → ∀ t, t < L.length * k → L.flatten[t]? = some ((L.toArray[t / k]!)[t % k]!)
  | [], _, t, h => by simp at h
  | o :: L, hk, t, h => by
    have ho := hk o (.head _)
    have hk0 : 0 < k := by
      refine Nat.pos_of_ne_zero fun e => ?_
      rw [e, Nat.mul_zero] at h; omega
    rw [List.flatten_cons]
    by_cases ht : t < k
    · rw [List.getElem?_append_left (by omega), Nat.div_eq_of_lt ht, Nat.mod_eq_of_lt ht, List.getElem?_eq_getElem (by omega)]
      simp [ho, ht]
    · rw [List.getElem?_append_right (by omega), ho, flatten_get L (fun o h => hk o (.tail _ h)) (t - k) (by rw [List.length_cons, Nat.succ_mul] at h; omega)]
      have e1 : t = t - k + k := by omega
      have e2 : t / k = (t - k) / k + 1 := by rw [e1, Nat.add_div_right _ hk0]; simp
      have e3 : t % k = (t - k) % k := by rw [e1, Nat.add_mod_right]; simp
      rw [e2, e3]
      simp
theorem flatK_list {α : Type} [Inhabited α] (enc : α → List Value) (k : Nat) (hk : ∀ x, (enc x).length = k) (d : List α) : (Go.Sort.flatK enc k d.toArray).toList = (d.map enc).flatten := by
  apply List.ext_getElem?
  intro t
  by_cases ht : t < d.length * k
  · rw [flatten_get (d.map enc) (fun o ho => by obtain ⟨x, _, rfl⟩ := List.mem_map.1 ho; exact hk x) t (by simpa using ht)]
    have h1 := Go.Sort.get_flatK enc k d.toArray t (by simpa using ht)
    rw [Array.getElem?_toList, Array.getElem?_eq_getElem (by simpa using ht)]
    rw [getElem!_pos _ t (by simpa using ht)] at h1
    rw [h1]
    congr 2
    have hk0 : 0 < k := by
      refine Nat.pos_of_ne_zero fun e => ?_
      rw [e, Nat.mul_zero] at ht; omega
    have hq : t / k < d.length := (Nat.div_lt_iff_lt_mul hk0).2 ht
    rw [getElem!_pos d.toArray (t / k) (by simpa using hq), getElem!_pos _ (t / k) (by simpa using hq)]
    simp
  · rw [List.getElem?_eq_none (by simp; omega), List.getElem?_eq_none]
    rw [List.length_flatten]
    have : ((d.map enc).map List.length) = List.replicate d.length k := by
      rw [List.map_map]
      exact List.eq_replicate_iff.2 ⟨by simp, fun b hb => by obtain ⟨x, _, rfl⟩ := List.mem_map.1 hb; exact hk x⟩
    rw [this, List.sum_replicate_nat]; omega
/-- The sort of a row of plain structs by a comparison. -/
theorem sortFK_io {ρ : Ren} {τ : Type} (f : τ → List AV) (k : Nat) (hk : ∀ x, (f x).length = k) (hk0 : 0 < k) (L : SlLaysF0.n6 P ρ) (hE : Enter P (ρ.f 6)) (aE : ∀ w, (isAgg (ρ.t 24)).run P w = .ok true w) (zE : ∀ w, (Go.sizeOf (ρ.t 24)).run P w = .ok k w) (e : TypeId)
    {good : τ → Prop} {cf : τ → τ → Int} (hO : CmpOrd good cf) (g : Nat) (caps : List AV) (hcn : noIdL caps = true)
    (hcmp : ∀ x y, good x → good y → FnFr P g (.agg (f x) :: .agg (f y) :: caps) (.int .i64 (cf x y)) []) (l : List τ) (hg : ∀ x, x ∈ l → good x) (hin : ∀ x, good x → ∀ y, y ∈ f x → PlainOk y) (hl : l.length < 4611686018427387904) :
    ∃ l', l'.Perm l ∧ SortedBy cf l' ∧ FnIO P (ρ.f 6) [.own 0, .fn g caps] [(0, .row e (.objs k (l.map f)))] 1 (.tup []) [(0, .row e (.objs k (l'.map f)))] := by
  by_cases h0 : l = []
  · subst h0
    refine ⟨[], List.Perm.refl _, List.Pairwise.nil, ?_⟩
    exact FnIO.placeF (id : Value → Value) hE e _ _ [] [] g caps hcn 0 rfl rfl rfl rfl (by simp) (fun c cells h => by cases h with | objs _ _ _ _ h => cases h; rfl) (fun c c' cells h => .objs k [] [] hk0 (.nil k)) (fun w T gb cap cb _ _ _ _ _ _ h => absurd h (by omega)) (fun w p cap fv => AnyF.slices_SortFunc_none { L with } p cap fv w)
  obtain ⟨x0, hx0⟩ := List.exists_mem_of_ne_nil l h0
  haveI : Inhabited {x : τ // good x} := ⟨⟨x0, hg x0 hx0⟩⟩
  have hd := attachWith_val hg
  generalize l.attachWith good hg = d at hd
  have hdl : d.length = l.length := by rw [← hd, List.length_map]
  have hp := pdq_list hO d _ rfl
  generalize ha : Sort.pdq (ltOf fun (x y : {x : τ // good x}) => cf x.1 y.1) d.toArray 0 d.toArray.size (Lib.bitLen d.toArray.size) true true = a at hp
  have hal : a.toList.length = d.length := hp.1.length_eq
  let enc : {x : τ // good x} → List Value := fun x => (f x.1).map encV
  have hke : ∀ x, (enc x).length = k := fun x => by show ((f x.1).map encV).length = k; rw [List.length_map, hk]
  have hfl : ∀ s : List {x : τ // good x}, (Go.Sort.flatK enc k s.toArray).toList = (((s.map Subtype.val).map f).map fun o => o.map encV).flatten := fun s => by
    rw [flatK_list enc k hke s, List.map_map, List.map_map]; rfl
  have hpl : ∀ s : List {x : τ // good x}, ∀ o, o ∈ (s.map Subtype.val).map f → o.length = k ∧ ∀ y, y ∈ o → PlainOk y := fun s o ho => by
    obtain ⟨x, hx, rfl⟩ := List.mem_map.1 ho
    obtain ⟨y, _, rfl⟩ := List.mem_map.1 hx
    exact ⟨hk _, hin _ y.2⟩
  refine ⟨a.toList.map Subtype.val, by rw [← hd]; exact hp.1.map _, List.pairwise_map.2 hp.2, ?_⟩
  refine FnIO.placeF (id : Value → Value) hE e _ _ (Go.Sort.flatK enc k d.toArray).toList (Go.Sort.flatK enc k a).toList g caps hcn l.length (by simp [← hal]) rfl (by simp [RowV.len]) (by show ((a.toList.map Subtype.val).map f).length = _; rw [List.length_map, List.length_map, hal, hdl]) (by simp [hdl, RowV.sz]) (fun c cells h => ?_) (fun c c' cells h => ?_) (fun w T gb cap cb hgl hng hT hcb hH hlt _ => ?_) (fun w p cap fv => AnyF.slices_SortFunc_none { L with } p cap fv w)
  · rw [List.map_id, hfl, hd]
    cases h with
    | objs _ _ _ hz ho => exact plainO_down (fun o ho => (hpl d o (by rw [hd]; exact ho)).2) ho
  · rw [List.map_id]
    have := hfl a.toList
    rw [Array.toArray_toList] at this
    rw [this]
    exact .objs k _ _ hk0 (plainO_up (hpl a.toList))
  · rw [Array.toArray_toList] at hH
    have hc := AnyQ.slices_SortFunc_eq L k aE zE enc hke (fun x v hv => by
      obtain ⟨y, hy, rfl⟩ := List.mem_map.1 hv
      exact plain_one (hin _ x.2 y hy)) (fun x y => cf x.1 y.1) hO.swo g cb.toArray gb 0 cap d.toArray w (entersG (hcmp x0 x0 (hg _ hx0) (hg _ hx0)).1) (fun m os dk hdk x y => cmp_calls (args := [.agg (f x.1), .agg (f y.1)]) id (hcmp x.1 y.1 x.2 y.2) hgl hng hT hcb (fun c => .cons _ _ _ _ (.agg _ _ (plainL_up (hin _ x.2))) (.cons _ _ _ _ (.agg _ _ (plainL_up (hin _ y.2))) .nil)) m os (Go.Sort.flatK enc k dk)) hH hlt (by simpa [hdl] using hl)
    rw [ha] at hc
    simp only [List.size_toArray, hdl] at hc
    rw [Array.toArray_toList]
    exact hc
end
end Go.Fv

/-
  Keys of maps that are arrays of texts.
-/
namespace Go.Fv
set_option linter.unusedSectionVars false
set_option linter.unusedVariables false
open Go.RowKit

theorem KeyT.strs2 {P : Program} {kt e : TypeId} (hu : P.underlying kt = some (.array 2 e)) (he : P.underlying e = some .string) (hk : P.keyType kt = true) (hc : P.cellsOf kt = 2) (hce : P.cellsOf e = 1) (hn : 1 ≤ P.types.size) (a b : List UInt8) : KeyT P kt (.agg [.str a, .str b]) := by
  refine ⟨rfl, fun hw => ?_⟩
  simp only [wfA, wfAs] at hw
  obtain ⟨ha, hb, _⟩ := hw
  obtain ⟨n, hn'⟩ : ∃ n, P.types.size + 1 = n + 2 := ⟨P.types.size - 1, by omega⟩
  have h1 : P.keyLits (n + 2) kt [.string ⟨a.toArray⟩, .string ⟨b.toArray⟩] = some [.string a, .string b] := by
    have ha' : (⟨a.toArray⟩ : ByteArray).size ≤ maxLen := by show a.toArray.size ≤ maxLen; simpa using ha
    have hb' : (⟨b.toArray⟩ : ByteArray).size ≤ maxLen := by show b.toArray.size ≤ maxLen; simpa using hb
    have k1 : P.keyLits (n + 1) e [.string ⟨a.toArray⟩] = some [.string a] := by unfold Program.keyLits; rw [he]; simp [ha']
    have k2 : P.keyLits (n + 1) e [.string ⟨b.toArray⟩] = some [.string b] := by unfold Program.keyLits; rw [he]; simp [hb']
    unfold Program.keyLits
    rw [hu]
    simp [hc, hce, List.range, List.range.loop, k1, k2]
  unfold keyOf
  rw [hu]
  have hf : Value.formed P kt (valK (.agg [.str a, .str b])) = true := by simp [valK, valKs, Value.formed, hu, hc]
  simp only [hk, hf, Bool.and_self, if_true]
  rw [hn']
  have hcells : (valK (.agg [.str a, .str b])).cells.toList = [.string ⟨a.toArray⟩, .string ⟨b.toArray⟩] := by simp [valK, valKs, Value.cells]
  rw [hcells, h1]
  exact ⟨_, rfl⟩
theorem keyed_deep {P : Program} {kt : TypeId} (hl : laidOutB P = true) (hrow : kt < P.types.size) (hk : P.keyTypeAt 3 kt = true) (hwide : (match P.underlying kt with | some (.array _ _) | some (.struct _) => true | _ => false) = true) : Maps.Keyed P kt :=
  Maps.Keyed.of_law (deep_law_laid hl (m := 3) (by omega) hrow hk hwide)
/-- A pair of texts as a key. -/
def key2 (k : List UInt8 × List UInt8) : AV := .agg [.str k.1, .str k.2]
theorem eqKey2 (a b : List UInt8 × List UInt8) : eqKey (key2 a) (key2 b) = decide (a = b) := by
  obtain ⟨a1, a2⟩ := a
  obtain ⟨b1, b2⟩ := b
  simp [key2, eqKey, eqKeys]
theorem renL_key2 (p : Nat → Nat) (l : List (List UInt8 × List UInt8)) : renL p (l.map key2) = l.map key2 := renL_kmap p (fun _ => rfl) l
theorem belowL_key2 (n : Nat) (l : List (List UInt8 × List UInt8)) : belowL n (l.map key2) = true := belowL_kmap n (fun _ => rfl) l
theorem mkL_key2 (l : List (List UInt8 × List UInt8)) (y : List AV) : mkL (l.map key2) y = [] := mkL_kmap (fun _ => rfl) l y
attribute [go_sem] renL_key2 belowL_key2 mkL_key2
end Go.Fv

/-
  What stands for families where they are lent; the end of a function whose results are only read.
-/
namespace Go.Fv
set_option linter.unusedSectionVars false
open Go.RowKit
set_option linter.unusedVariables false
set_option linter.unusedSimpArgs false

theorem allOk_get {R : AV → AV → Prop} : ∀ {l l' : List AV}, l.length = l'.length → (∀ j (h : j < l.length) (h' : j < l'.length), R l[j] l'[j]) → allOk R l l'
  | [], [], _, _ => rfl
  | [], _ :: _, h, _ => by simp at h
  | _ :: _, [], h, _ => by simp at h
  | x :: l, y :: l', h, hr => ⟨y, l', hr 0 (by simp) (by simp), allOk_get (by simpa using h) fun j h1 h2 => hr (j + 1) (Nat.succ_lt_succ h1) (Nat.succ_lt_succ h2), rfl⟩
theorem argOkN_row {rows : List (Nat × Item)} {n i : Nat} {e : TypeId} {r : RowV} (h : lk rows i = some (.row e r)) (hid : noIdR r = true) : argOkN rows (n + 1) (.own i) (.ro r) := by
  simp only [argOkN, h, hid, if_true]
theorem argOkN_map {rows : List (Nat × Item)} {n i : Nat} {ks vs ks' vs' : List AV} (h : lk rows i = some (.map ks vs)) (h1 : allOk (argOkN rows n) ks ks') (h2 : allOk (argOkN rows n) vs vs') : argOkN rows (n + 1) (.own i) (.mp ks' vs') := by
  simp only [argOkN, h]
  exact ⟨ks', vs', h1, h2, rfl⟩
/-! ### The same names -/
def envId (s : S) (N : Nat) : List (Nat × AV) → Prop
  | [] => True
  | (r, v) :: l => (s.get r = v ∧ Fv.below N v = true) ∧ envId s N l
def rowsId (rows : List (Nat × Item)) (N : Nat) : List (Nat × Item) → Prop
  | [] => True
  | (i, it) :: l => (i < N ∧ lk rows i = some it ∧ it.below N = true) ∧ rowsId rows N l
theorem envId_ok {s : S} {N : Nat} : ∀ {l : List (Nat × AV)}, envId s N l → envOk id s N l
  | [], _ => trivial
  | (r, v) :: l, h => ⟨⟨by rw [ren_low (p := id) (b0 := N) (fun _ _ => rfl) v h.1.2]; exact h.1.1, h.1.2⟩, envId_ok h.2⟩
theorem rowsId_lk {rows : List (Nat × Item)} {N : Nat} : ∀ {l : List (Nat × Item)}, rowsId rows N l → ∀ i it, lk l i = some it → i < N ∧ lk rows i = some it ∧ it.below N = true
  | (j, jt) :: l, h, i, it, hi => by
    simp only [lk] at hi
    split at hi
    · rename_i e; subst e; cases hi; exact h.1
    · exact rowsId_lk h.2 i it hi
/-- The state says less, with the same names. -/
theorem Ent.same {w0 : World} {T0 : Bs} {b0 : Nat} {s s' : S} (hn : s'.n = s.n) (hb : b0 ≤ s'.next) (he : envId s s'.next s'.env) (hr : rowsId s.rows s'.next s'.rows) : Ent w0 T0 b0 s s' :=
  Ent.ofF id hn hb (fun _ _ => rfl) (envId_ok he) (fun i it hi => by
    obtain ⟨h1, h2, h3⟩ := rowsId_lk hr i it hi
    exact ⟨h1, by rw [Item.ren_low (p := id) (b0 := s'.next) (fun _ _ => rfl) it h3]; exact h2, h3⟩) (fun i j _ _ _ _ e => e)
attribute [go_sem] envId rowsId
section
variable {P : Program} {w0 : World} {T0 : Bs}
/-- THE END of a function whose results are only read from now on. -/
theorem Ret.ro {res : List ResultVar} {out : AV} {s : S} (h : rets P s res (fun vs => outOk s.rows (tupOf vs) out)) : Ret P w0 T0 res out [] s := by
  rintro a w ⟨m, hm⟩
  obtain ⟨vs, us, he, hrun, hvs⟩ := rets_run hm h
  have hrv : Rv (ctxOf T0 w0.heap.size m s w) (tupOf vs) (tupV us) := by
    cases hvs with
    | nil => exact .tup _ _ .nil
    | cons x v l us hx ht =>
      cases ht with
      | nil => exact hx
      | cons x' v' l' us' hx' ht' => exact .tup _ _ (.cons _ _ _ _ hx (.cons _ _ _ _ hx' ht'))
  have hal : ∀ b, ownB T0 w0.heap.size b → allow T0 w0.heap.size (fun _ => undef) [] b := fun b hb => ⟨hb.imp id (·.2), fun i it hi => by simp [lk] at hi⟩
  have hl : Lend w (ctxOf T0 w0.heap.size m s w) s.rows (allow T0 w0.heap.size (fun _ => undef) []) :=
    { hw := rfl, t := fun b hb => ⟨hb.1, fun i it hi => by simp [lk] at hi⟩,
      own := fun i e r hi => by
        obtain ⟨n, cells, hc, hn, hq, hO⟩ := (hm.rows i _ hi).2
        exact ⟨fun b hb => hal b (hO b hb), n, cells, hc, hn, hq⟩,
      box := fun i e cs hi => by
        obtain ⟨g, vs, hv, hg, hl, hh⟩ := (hm.rows i _ hi).2
        exact ⟨g, vs, hv, hal g hg, hl, hh⟩,
      map := fun i ks vs hi => by
        obtain ⟨g, es, clock, hv, hg, h1, h2, h3, h4, hh⟩ := (hm.rows i _ hi).2
        exact ⟨g, es, clock, hv, hal g hg, h1, h2, h3, h4, hh⟩ }
  refine ⟨_, fun fn hf => results_list hf a.tmps hrun, fun _ => undef, 0, ?_, fun i it hi => by simp [lk] at hi, fun i j it jt b hi => by simp [lk] at hi⟩
  generalize tupOf vs = x at he hrv
  generalize hus : tupV us = u at hrv
  unfold outOk at he
  split at he
  · obtain ⟨l', ha, rfl⟩ := he
    cases hrv with
    | tup _ us' hv' => exact .tup _ _ (argOkT_rv hl _ ha hv')
  · exact argOkN_rv hl 6 _ he hrv
end
end Go.Fv

/-
  What arrives: arguments of every shape, as the row's reading gives them.
-/
namespace Go.Fv
set_option linter.unusedSectionVars false
open Go.RowKit
set_option linter.unusedVariables false
set_option linter.unusedSimpArgs false

inductive All2 {α β : Type} (R : α → β → Prop) : List α → List β → Prop
  | nil : All2 R [] []
  | cons {a : α} {b : β} {l : List α} {m : List β} (h : R a b) (t : All2 R l m) : All2 R (a :: l) (b :: m)
section
variable {H : Type} {enc : TypeId × Value → H} {P : Program} {w : World} {fuel : Nat} {t : TypeId} {cs : List Value} {x : DataW H × List MemPlace}

abbrev cIn (w : World) : Ctx := ⟨w, fun _ => True, fun _ => undef, 0⟩
/-- The cells that stand at 'cs' are read as 't', in a world that may be read wherever. -/
def Rd (enc : TypeId × Value → H) (P : Program) (w : World) (t : TypeId) (cs : List Value) (x : DataW H × List MemPlace) : Prop := ∃ fuel, DataW.trod enc P w 0 (fun _ => true) true fuel t cs = some x

theorem Rd.bool (ht : P.underlying t = some .bool) (h : Rd enc P w t cs x) : ∃ b, RvL (cIn w) [.bool b] cs := by
  obtain ⟨f, h⟩ := h
  obtain ⟨b, rfl, _⟩ := DataW.trod_bool ht h
  exact ⟨b, .cons _ _ _ _ (.bool b) rfl .nil⟩
theorem InK_wf {k : IntKind} {n : Int} (h : (Lit.int k n).wf = true) : InK k n := by
  simpa [Lit.wf, InK] using h
theorem Rd.int {k : IntKind} (ht : P.underlying t = some (.int k)) (h : Rd enc P w t cs x) : ∃ n, InK k n ∧ RvL (cIn w) [.int k n] cs := by
  obtain ⟨f, h⟩ := h
  obtain ⟨n, rfl, _, hw⟩ := DataW.trod_int ht h
  exact ⟨n, InK_wf hw, .cons _ _ _ _ (.int k n (InK_wf hw)) rfl .nil⟩
theorem Rd.str (ht : P.underlying t = some .string) (h : Rd enc P w t cs x) : ∃ s : List UInt8, x.1 = .lit (.string s) ∧ RvL (cIn w) [.str s] cs := by
  obtain ⟨f, h⟩ := h
  obtain ⟨s, rfl, rfl, hw⟩ := DataW.trod_string ht h
  exact ⟨s.data.toList, rfl, .cons _ _ _ _ (.str _ (by simpa using hw)) rfl .nil⟩

theorem cells_of {base : Nat} {a : Addr} {n : Nat} {vs : List Value} (h : w.cells? base a n = some vs) : vs.length = n ∧ ∀ j u, vs[j]? = some u → w.cell? (a.add j) = some u := by
  obtain ⟨h1, h2, h3⟩ := World.cells?_some h
  refine ⟨h2, fun j u hu => ?_⟩
  have hj : j < n := by rw [← h2]; exact (List.getElem?_eq_some_iff.1 hu).1
  rw [h3 j hj, hu]

/-- A slice: its elements, each read; where they lie. -/
theorem Rd.slice {e : TypeId} (ht : P.underlying t = some (.slice e)) (h : Rd enc P w t cs x) :
    (cs = [.slice none 0 0] ∧ x.1 = .nil) ∨ ∃ (a : Addr) (len cap : Nat) (els : List (List Value × (DataW H × List MemPlace))) (spare : List (DataW H)), cs = [.slice (some a) len cap] ∧ len ≤ cap ∧ cap ≤ maxLen ∧ els.length = len ∧ x.1 = .slice (els.map (·.2.1)) spare ∧
      (∀ y, y ∈ els → Rd enc P w e y.1 y.2 ∧ y.1.length = P.cellsOf e) ∧ ∀ i y, els[i]? = some y → ∀ j u, y.1[j]? = some u → w.cell? (a.add (i * P.cellsOf e + j)) = some u := by
  obtain ⟨f, h⟩ := h
  rcases DataW.trod_slice ht h with ⟨rfl, rfl⟩ | ⟨a, len, cap, elems, rest, n, _, rfl, rfl, _, hl, hm, hlen, hel, _, _⟩
  · exact .inl ⟨rfl, rfl⟩
  refine .inr ?_
  have each : ∀ i, i < len → ∃ vs y, w.cells? 0 (a.add (i * P.cellsOf e)) (P.cellsOf e) = some vs ∧ DataW.trod enc P w 0 (fun _ => true) true n e vs = some y ∧ elems[i]? = some y := by
    intro i hi
    have := hel i hi
    have hi' : i < elems.length := by omega
    rw [List.getElem?_eq_getElem hi', Option.bind_eq_some_iff] at this
    obtain ⟨vs, h1, h2⟩ := this
    exact ⟨vs, _, h1, h2, List.getElem?_eq_getElem hi'⟩
  let vsAt : Nat → List Value := fun i => (w.cells? 0 (a.add (i * P.cellsOf e)) (P.cellsOf e)).getD []
  have hadd : ∀ (m j : Nat), (a.add m).add j = a.add (m + j) := by
    intro m j
    unfold Addr.add
    by_cases hn : m = 0
    · subst hn; simp
    · by_cases hj : j = 0
      · subst hj; simp [hn]
      · simp [hn, hj, Nat.add_assoc]
  refine ⟨a, len, cap, elems.zipIdx.map (fun y => (vsAt y.2, y.1)), rest.map (·.1), rfl, hl, hm, by simp [hlen], ?_, ?_, ?_⟩
  · simp only [List.map_map]
    congr 1
    have : (fun y : (DataW H × List MemPlace) × Nat => y.1.1) = (fun y => y.1) ∘ Prod.fst := rfl
    show elems.map (·.1) = elems.zipIdx.map (fun y => y.1.1)
    rw [this, ← List.map_map]
    simp
  · intro y hy
    obtain ⟨z, hz, rfl⟩ := List.mem_map.1 hy
    obtain ⟨i, hi⟩ := List.getElem?_of_mem hz
    rw [List.getElem?_zipIdx] at hi
    simp only [Nat.zero_add, Option.map_eq_some_iff] at hi
    obtain ⟨u, hu, rfl⟩ := hi
    have hlt : i < len := by rw [← hlen]; exact (List.getElem?_eq_some_iff.1 hu).1
    obtain ⟨vs, y', h1, h2, h3⟩ := each i hlt
    have : y' = u := by rw [hu] at h3; exact (Option.some.inj h3).symm
    subst this
    refine ⟨⟨n, ?_⟩, ?_⟩
    · show DataW.trod enc P w 0 (fun _ => true) true n e ((w.cells? 0 (a.add (i * P.cellsOf e)) (P.cellsOf e)).getD []) = _
      rw [h1]; exact h2
    · show ((w.cells? 0 (a.add (i * P.cellsOf e)) (P.cellsOf e)).getD []).length = _
      rw [h1]; exact (cells_of h1).1
  · intro i y hy j u hu
    rw [List.getElem?_map, List.getElem?_zipIdx] at hy
    simp only [Nat.zero_add, Option.map_map, Option.map_eq_some_iff] at hy
    obtain ⟨z, hz, rfl⟩ := hy
    have hlt : i < len := by rw [← hlen]; exact (List.getElem?_eq_some_iff.1 hz).1
    obtain ⟨vs, y', h1, _, _⟩ := each i hlt
    have hu' : vs[j]? = some u := by
      have : ((w.cells? 0 (a.add (i * P.cellsOf e)) (P.cellsOf e)).getD [])[j]? = some u := hu
      rw [h1] at this; exact this
    rw [← hadd]; exact (cells_of h1).2 j u hu'

/-- Elements one behind the other. -/
theorem cells_join {els : List (List Value)} {n : Nat} {a : Addr} (hn : ∀ y, y ∈ els → y.length = n) (h : ∀ i y, els[i]? = some y → ∀ j u, y[j]? = some u → w.cell? (a.add (i * n + j)) = some u) : ∀ j u, els.flatten[j]? = some u → w.cell? (a.add j) = some u := by
  induction els generalizing a with
  | nil => intro j u hu; simp at hu
  | cons y l ih =>
    intro j u hu
    have hy := hn y (.head _)
    by_cases hj : j < y.length
    · rw [List.flatten_cons, List.getElem?_append_left hj] at hu
      have := h 0 y rfl j u hu
      simpa using this
    · rw [List.flatten_cons, List.getElem?_append_right (by omega)] at hu
      have hadd : ∀ (m j : Nat), (a.add m).add j = a.add (m + j) := by
        intro m j
        unfold Addr.add
        by_cases hn : m = 0
        · subst hn; simp
        · by_cases hj : j = 0
          · subst hj; simp [hn]
          · simp [hn, hj, Nat.add_assoc]
      have := ih (a := a.add n) (fun z hz => hn z (.tail _ hz)) (fun i z hz k v hv => by
        have := h (i + 1) z (by simpa using hz) k v hv
        rw [hadd]
        rwa [show (i + 1) * n + k = n + (i * n + k) by rw [Nat.succ_mul]; omega] at this) (j - y.length) u hu
      rw [hadd] at this
      rwa [show n + (j - y.length) = j by omega] at this

/-- A slice as a row: 'f' says what an element reads as; 'row' the row of the elements. -/
theorem Rd.row {e : TypeId} {β : Type} (ht : P.underlying t = some (.slice e)) (row : List β → RowV) (hlen : ∀ l, (row l).len = l.length) (hnil : RowC (cIn w) (row []) [])
    (R : β → List Value → Prop) (hrow : ∀ l vss, All2 R l vss → RowC (cIn w) (row l) vss.flatten)
    (Q : β → DataW H → Prop) (hel : ∀ vs y, Rd enc P w e vs y → ∃ b, R b vs ∧ Q b y.1) (h : Rd enc P w t cs x) :
    ∃ l : List β, RvL (cIn w) [.ro (row l)] cs ∧ ((x.1 = .nil ∧ l = []) ∨ ∃ ds sp, x.1 = .slice ds sp ∧ All2 Q l ds) := by
  rcases h.slice ht with ⟨rfl, hx⟩ | ⟨a, len, cap, els, sp, rfl, hl, hm, hlen', hx, hall, hcell⟩
  · exact ⟨[], .cons _ _ _ _ (.roNil _ hnil (hnil.noid0 rfl)) rfl .nil, .inl ⟨hx, rfl⟩⟩
  have key : ∀ els : List (List Value × (DataW H × List MemPlace)), (∀ y, y ∈ els → Rd enc P w e y.1 y.2) → ∃ l : List β, All2 R l (els.map (·.1)) ∧ All2 Q l (els.map (·.2.1)) := by
    intro els
    induction els with
    | nil => intro _; exact ⟨[], .nil, .nil⟩
    | cons y els ih =>
      intro hh
      obtain ⟨b, h1, h2⟩ := hel y.1 y.2 (hh y (.head _))
      obtain ⟨l, h3, h4⟩ := ih fun z hz => hh z (.tail _ hz)
      exact ⟨b :: l, .cons h1 h3, .cons h2 h4⟩
  obtain ⟨l, h1, h2⟩ := key els fun y hy => (hall y hy).1
  have hll : l.length = len := by
    have : ∀ (l : List β) (vss : List (List Value)), All2 R l vss → l.length = vss.length := by
      intro l vss h; induction h with | nil => rfl | cons _ _ ih => simp [ih]
    have := this _ _ h1
    simpa [hlen'] using this
  refine ⟨l, .cons _ _ _ _ (.ro _ a len cap _ (hrow _ _ h1) (by rw [hlen, hll]) hl hm ⟨trivial, fun _ => trivial, ?_⟩ ((hrow _ _ h1).noid0 rfl)) rfl .nil, .inr ⟨_, _, hx, h2⟩⟩
  refine cells_join (n := P.cellsOf e) (fun y hy => ?_) (fun i y hy j u hu => ?_)
  · obtain ⟨z, hz, rfl⟩ := List.mem_map.1 hy; exact (hall z hz).2
  · rw [List.getElem?_map] at hy
    simp only [Option.map_eq_some_iff] at hy
    obtain ⟨z, hz, rfl⟩ := hy
    exact hcell i z hz j u hu

theorem RowC.intsIn {c : Ctx} {k : IntKind} {l : List Int} {cells : List Value} (h : RowC c (.ints k l) cells) : ∀ n, n ∈ l → InK k n := by
  generalize hr : RowV.ints k l = r at h
  cases h <;> cases hr
  assumption
def lenD : DataW H → Nat
  | .slice ds _ => ds.length
  | .lit (.string s) => s.length
  | _ => 0
theorem All2.length {α β : Type} {R : α → β → Prop} {l : List α} {m : List β} (h : All2 R l m) : l.length = m.length := by
  induction h with | nil => rfl | cons _ _ ih => simp [ih]

theorem Rd.bools {e : TypeId} (ht : P.underlying t = some (.slice e)) (he : P.underlying e = some .bool) (h : Rd enc P w t cs x) : ∃ l : List Bool, RvL (cIn w) [.ro (.bools l)] cs ∧ l.length = lenD x.1 := by
  obtain ⟨l, h1, h2⟩ := Rd.row (β := Bool) ht .bools (fun _ => rfl) (.bools []) (fun b vs => vs = [.bool b]) (fun l vss hv => by
    have : vss.flatten = l.map Value.bool := by induction hv with | nil => rfl | cons h _ ih => subst h; simp [ih]
    rw [this]; exact .bools l) (fun _ _ => True) (fun vs y hy => by
      obtain ⟨f, hy⟩ := hy
      obtain ⟨b, rfl, _⟩ := DataW.trod_bool he hy
      exact ⟨b, rfl, trivial⟩) h
  refine ⟨l, h1, ?_⟩
  rcases h2 with ⟨e1, e2⟩ | ⟨ds, sp, e1, e2⟩
  · rw [e1, e2]; rfl
  · rw [e1]; exact e2.length
theorem Rd.ints {e : TypeId} {k : IntKind} (ht : P.underlying t = some (.slice e)) (he : P.underlying e = some (.int k)) (h : Rd enc P w t cs x) : ∃ l : List Int, (∀ n, n ∈ l → InK k n) ∧ RvL (cIn w) [.ro (.ints k l)] cs ∧ l.length = lenD x.1 := by
  obtain ⟨l, h1, h2⟩ := Rd.row (β := Int) ht (.ints k) (fun _ => rfl) (.ints k [] (fun x hx => by cases hx)) (fun n vs => vs = [.int k n] ∧ InK k n) (fun l vss hv => by
    have : vss.flatten = l.map (Value.int k) ∧ ∀ n, n ∈ l → InK k n := by
      induction hv with
      | nil => exact ⟨rfl, fun n hn => by cases hn⟩
      | cons h _ ih =>
        obtain ⟨rfl, h2⟩ := h
        refine ⟨by simp [ih.1], fun n hn => ?_⟩
        cases List.mem_cons.1 hn with
        | inl e => subst e; exact h2
        | inr e => exact ih.2 n e
    rw [this.1]; exact .ints k l this.2) (fun _ _ => True) (fun vs y hy => by
      obtain ⟨f, hy⟩ := hy
      obtain ⟨n, rfl, _, hw⟩ := DataW.trod_int he hy
      exact ⟨n, ⟨rfl, InK_wf hw⟩, trivial⟩) h
  have hin : ∀ n, n ∈ l → InK k n := by
    cases h1 with
    | cons _ v _ _ hv _ _ =>
      cases hv with
      | roNil _ hr => exact hr.intsIn
      | ro _ _ _ _ _ hr => exact hr.intsIn
  refine ⟨l, hin, h1, ?_⟩
  rcases h2 with ⟨e1, e2⟩ | ⟨ds, sp, e1, e2⟩
  · rw [e1, e2]; rfl
  · rw [e1]; exact e2.length

/-! ### Arguments one by one -/
theorem arg_one {base : Nat} {v : Value} {d : TypeDesc} (ht : P.underlying t = some d) (hd : d = .bool ∨ (∃ k, d = .int k) ∨ d = .string ∨ ∃ e, d = .slice e) (h : Value.okWide P w .any base t v) : v.cells.toList = [v] := by
  unfold Value.okWide at h
  rw [ht] at h
  have h' : Cell.okWide P w .any base t v := by
    rcases hd with rfl | ⟨k, rfl⟩ | rfl | ⟨e, rfl⟩ <;> exact h
  unfold Cell.okWide at h'
  rw [ht] at h'
  have h2 : Cell.ok P w .any base t v := by
    rcases hd with rfl | ⟨k, rfl⟩ | rfl | ⟨e, rfl⟩ <;> exact h'
  unfold Cell.ok at h2
  rw [ht] at h2
  cases v <;> first | rfl | (rcases hd with rfl | ⟨k, rfl⟩ | rfl | ⟨e, rfl⟩ <;> exact h2.elim)
theorem RvL.hd {c : Ctx} {a : AV} {v : Value} (h : RvL c [a] [v]) : Rv c a v := by cases h; assumption

theorem Trod.rd {v : Value} {d : DataW H} {ps : List MemPlace} (h : DataW.Trod enc P w 0 (fun _ => true) true t v d ps) : Rd enc P w t v.cells.toList (d, ps) := h

theorem arg_bool {base : Nat} {v : Value} {d : DataW H} {ps : List MemPlace} (ht : P.underlying t = some .bool) (hv : Value.okWide P w .any base t v) (h : DataW.Trod enc P w 0 (fun _ => true) true t v d ps) : ∃ b, Rv (cIn w) (.bool b) v := by
  obtain ⟨b, hb⟩ := (Trod.rd h).bool ht
  rw [arg_one ht (.inl rfl) hv] at hb
  exact ⟨b, hb.hd⟩
theorem arg_int {base : Nat} {v : Value} {d : DataW H} {ps : List MemPlace} {k : IntKind} (ht : P.underlying t = some (.int k)) (hv : Value.okWide P w .any base t v) (h : DataW.Trod enc P w 0 (fun _ => true) true t v d ps) : ∃ n, InK k n ∧ Rv (cIn w) (.int k n) v := by
  obtain ⟨b, hk, hb⟩ := (Trod.rd h).int ht
  rw [arg_one ht (.inr (.inl ⟨k, rfl⟩)) hv] at hb
  exact ⟨b, hk, hb.hd⟩
theorem arg_str {base : Nat} {v : Value} {d : DataW H} {ps : List MemPlace} (ht : P.underlying t = some .string) (hv : Value.okWide P w .any base t v) (h : DataW.Trod enc P w 0 (fun _ => true) true t v d ps) : ∃ s : List UInt8, d = .lit (.string s) ∧ Rv (cIn w) (.str s) v := by
  obtain ⟨b, hk, hb⟩ := (Trod.rd h).str ht
  rw [arg_one ht (.inr (.inr (.inl rfl))) hv] at hb
  exact ⟨b, hk, hb.hd⟩
/-! ### What the row asks behind the call -/
theorem stays_all (hl : laidOutB P = true) {W W' : World} (hB : Below W.heap.size W W') : ∀ {ts : List TypeId} {vs : List Value} {ds : List (DataW H)} {ps : List MemPlace}, (∀ t, t ∈ ts → P.readableRec t = true ∧ t < P.types.size) →
    DataW.TrodAll enc P W 0 (fun _ => true) true ts vs ds ps → (∀ p, p ∈ ps → p.block < W.heap.size) → DataW.TrodAll enc P W' 0 (fun b => decide (b < W.heap.size)) true ts vs ds ps
  | [], _, _, _, _, h, _ => by
    obtain ⟨rfl, rfl, rfl⟩ := ChangeShapes.trodAll_nil h
    exact h
  | t :: ts, _, _, _, hr, h, hlt => by
    obtain ⟨v, vs, d, ds, p, q, rfl, rfl, rfl, h1, h2⟩ := ChangeShapes.trodAll_cons h
    obtain ⟨k1, k2⟩ := hr t (.head _)
    exact ⟨p, q, Below.trod hl k1 k2 h1 hB (fun x hx => hlt x (List.mem_append.2 (.inl hx))), stays_all hl hB (fun u hu => hr u (.tail _ hu)) h2 (fun x hx => hlt x (List.mem_append.2 (.inr hx))), rfl⟩

theorem all_len : ∀ {ts : List TypeId} {vs : List Value} {ds : List (DataW H)} {ps : List MemPlace} {W : World}, DataW.TrodAll enc P W 0 (fun _ => true) true ts vs ds ps → ds.length = ts.length
  | [], _, _, _, _, h => by obtain ⟨rfl, rfl, rfl⟩ := ChangeShapes.trodAll_nil h; rfl
  | t :: ts, _, _, _, _, h => by
    obtain ⟨v, vs, d, ds, p, q, rfl, rfl, rfl, h1, h2⟩ := ChangeShapes.trodAll_cons h
    simp [all_len h2]

/-- A law that answers true, and has changed nothing that there was. -/
theorem post_true {f : Func} {s : ChangeSpec} {W W' : World} {args : Array Value} {ds gs : List (DataW H)} {before : List MemPlace} {tb : TypeId}
    (hW : DataW.Whole enc P f.params.toList s.vars false W args.toList ds gs before) (hvars : s.vars = []) (hfn : ∀ l : List (DataW H), l.length = f.params.size → s.fn H l = { results := [.lit (.bool true)], args := l })
    (hres : f.resultTypes = #[tb]) (hb : P.underlying tb = some .bool) (hl : laidOutB P = true) (hr : ∀ t, t ∈ f.params.toList → P.readableRec t = true ∧ t < P.types.size) (hB : Below W.heap.size W W') :
    s.post enc P f false true false false W args (.bool true) W' := by
  have hlt := hW.lt
  have hW' := hW
  obtain ⟨p, q, hA, hV, rfl, _, _⟩ := hW'
  rw [hvars] at hV
  obtain ⟨rfl, rfl⟩ : gs = [] ∧ q = [] := by
    cases gs with
    | nil => exact ⟨rfl, hV⟩
    | cons _ _ => exact hV.elim
  have hf := hfn (ds ++ []) (by rw [List.append_nil, all_len hA]; simp)
  refine ⟨ds, [], p ++ [], [], p, [], hW, ?_, ?_, ?_, hB.frame _, fun h => by cases h⟩
  · rw [hf, hres]
    exact ⟨[], [], RowKit.shut_bool hb true, rfl, rfl⟩
  · rw [hf]
    have := stays_all (enc := enc) hl hB hr hA (fun x hx => hlt x (by simpa using hx))
    simpa using this
  · rw [hf, hvars]
    rfl

theorem calls_true {fid : Nat} {f : Func} {s : ChangeSpec} {W : World} {args : Array Value} {ds gs : List (DataW H)} {before : List MemPlace} {tb : TypeId} {avs : List AV} (h : FnOk P fid avs (.bool true) []) (hgl : GlOk P W) (ha : RvT (cIn W) avs args.toList)
    (hW : DataW.Whole enc P f.params.toList s.vars false W args.toList ds gs before) (hvars : s.vars = []) (hfn : ∀ l : List (DataW H), l.length = f.params.size → s.fn H l = { results := [.lit (.bool true)], args := l })
    (hres : f.resultTypes = #[tb]) (hb : P.underlying tb = some .bool) (hl : laidOutB P = true) (hr : ∀ t, t ∈ f.params.toList → P.readableRec t = true ∧ t < P.types.size) :
    Calls P fid args W fun e W' => ∃ v, e = .returned v ∧ s.post enc P f false true false false W args v W' := by
  refine (h.2 W (fun _ => True) args.toList hgl ha).mono ?_
  rintro e W' ⟨v, rfl, hB, m, N, hrv, _⟩
  cases hrv
  exact ⟨_, rfl, post_true hW hvars hfn hres hb hl hr hB.plain⟩
end
end Go.Fv

/-
  What arrives: structs.
-/
namespace Go.Fv
set_option linter.unusedSectionVars false
open Go.RowKit
set_option linter.unusedVariables false
set_option linter.unusedSimpArgs false

section
variable {H : Type} {enc : TypeId × Value → H} {P : Program} {w : World} {t : TypeId} {cs : List Value} {x : DataW H × List MemPlace}

theorem Rd.fields {fs : Array Field} (ht : P.underlying t = some (.struct fs)) (h : Rd enc P w t cs x) : cs.length = P.cellsOf t ∧ ∃ xs : List (DataW H × List MemPlace), x.1 = .agg (xs.map (·.1)) ∧ xs.length = fs.size ∧
    ∀ (i : Nat) (f : Field), fs[i]? = some f → ∃ y, xs[i]? = some y ∧ Rd enc P w f.type ((cs.drop f.offset).take (P.cellsOf f.type)) y := by
  obtain ⟨fuel, h⟩ := h
  obtain ⟨xs, n, _, rfl, hl, hn, hf⟩ := DataW.trod_struct ht h
  refine ⟨hl, xs, rfl, hn, fun i f hi => ?_⟩
  have hlt : i < xs.length := by rw [hn]; exact (Array.getElem?_eq_some_iff.1 hi).1
  refine ⟨xs[i], List.getElem?_eq_getElem hlt, n, ?_⟩
  rw [hf i f hi, List.getElem?_eq_getElem hlt]
theorem RvL.app {c : Ctx} : ∀ {l l' : List AV} {vs vs' : List Value}, RvL c l vs → RvL c l' vs' → RvL c (l ++ l') (vs ++ vs')
  | _, _, _, _, .nil, h => h
  | _, _, _, _, .cons x v l vs hx h1 ht, h => .cons x v _ _ hx h1 (ht.app h)
end
end Go.Fv

/-
  What arrives: rows of texts and of structs.
-/
namespace Go.Fv
set_option linter.unusedSectionVars false
open Go.RowKit
set_option linter.unusedVariables false
set_option linter.unusedSimpArgs false

section
variable {H : Type} {enc : TypeId × Value → H} {P : Program} {w : World} {t : TypeId} {cs : List Value} {x : DataW H × List MemPlace}

theorem RvL.str1 {c : Ctx} {s : List UInt8} {vs : List Value} (h : RvL c [.str s] vs) : vs = [.string ⟨s.toArray⟩] ∧ s.length ≤ maxLen := by
  cases h with
  | cons _ v _ _ hv _ ht =>
    cases ht
    cases hv with
    | str _ h => exact ⟨rfl, h⟩
theorem Rd.strs {e : TypeId} (ht : P.underlying t = some (.slice e)) (he : P.underlying e = some .string) (h : Rd enc P w t cs x) : ∃ l : List (List UInt8), (∀ s, s ∈ l → s.length ≤ maxLen) ∧ RvL (cIn w) [.ro (.strs l)] cs := by
  obtain ⟨l, h1, h2⟩ := Rd.row (β := List UInt8) ht .strs (fun _ => rfl) (.strs [] (fun x hx => by cases hx)) (fun b vs => RvL (cIn w) [.str b] vs) (fun l vss hv => by
    have : vss.flatten = l.map (fun s => Value.string ⟨s.toArray⟩) ∧ ∀ s, s ∈ l → s.length ≤ maxLen := by
      induction hv with
      | nil => exact ⟨rfl, fun s hs => by cases hs⟩
      | cons h _ ih =>
        obtain ⟨rfl, hl⟩ := h.str1
        refine ⟨by simp [ih.1], fun s hs => ?_⟩
        cases List.mem_cons.1 hs with
        | inl e => subst e; exact hl
        | inr e => exact ih.2 s e
    rw [this.1]; exact .strs l this.2) (fun _ _ => True) (fun vs y hy => by
      obtain ⟨s, _, hs⟩ := hy.str he
      exact ⟨s, hs, trivial⟩) h
  refine ⟨l, ?_, h1⟩
  cases h1 with
  | cons _ v _ _ hv _ _ =>
    have go : ∀ {cells : List Value}, RowC (cIn w) (.strs l) cells → ∀ s, s ∈ l → s.length ≤ maxLen := by
      intro cells hr
      generalize hq : RowV.strs l = r at hr
      cases hr <;> cases hq
      assumption
    cases hv with
    | roNil _ hr => exact go hr
    | ro _ _ _ _ _ hr => exact go hr
theorem Rd.objs {e : TypeId} {β : Type} (ht : P.underlying t = some (.slice e)) (n : Nat) (hn : 0 < n) (av : β → List AV) (hid : ∀ b, noIdL (av b) = true) (hlen : ∀ b, (av b).length = n) (I : β → Prop)
    (hel : ∀ vs y, Rd enc P w e vs y → ∃ b, RvL (cIn w) (av b) vs ∧ I b) (h : Rd enc P w t cs x) : ∃ l : List β, (∀ b, b ∈ l → I b) ∧ RvL (cIn w) [.ro (.objs n (l.map av))] cs := by
  obtain ⟨l, h1, h2⟩ := Rd.row (β := { b : β // I b }) ht (fun l => .objs n (l.map fun b => av b.1)) (fun l => by simp [RowV.len]) (.objs n [] [] hn (.nil n)) (fun b vs => RvL (cIn w) (av b.1) vs) (fun l vss hv => by
    refine .objs n _ _ hn ?_
    induction hv with
    | nil => exact .nil n
    | cons h _ ih => exact .cons n _ _ _ _ h (by rw [h.length]; exact hlen _) ih) (fun _ _ => True) (fun vs y hy => by
      obtain ⟨b, hb, hI⟩ := hel vs y hy
      exact ⟨⟨b, hI⟩, hb, trivial⟩) h
  refine ⟨l.map (·.1), fun b hb => ?_, ?_⟩
  · obtain ⟨y, _, rfl⟩ := List.mem_map.1 hb; exact y.2
  · rw [List.map_map]; exact h1
theorem arg_objs {base : Nat} {v : Value} {d : DataW H} {ps : List MemPlace} {e : TypeId} {β : Type} (ht : P.underlying t = some (.slice e)) (n : Nat) (hn : 0 < n) (av : β → List AV) (hid : ∀ b, noIdL (av b) = true) (hlen : ∀ b, (av b).length = n) (I : β → Prop)
    (hel : ∀ vs y, Rd enc P w e vs y → ∃ b, RvL (cIn w) (av b) vs ∧ I b) (hv : Value.okWide P w .any base t v) (h : DataW.Trod enc P w 0 (fun _ => true) true t v d ps) :
    ∃ l : List β, (∀ b, b ∈ l → I b) ∧ Rv (cIn w) (.ro (.objs n (l.map av))) v := by
  obtain ⟨b, hb, hk⟩ := (Trod.rd h).objs ht n hn av hid hlen I hel
  rw [arg_one ht (.inr (.inr (.inr ⟨e, rfl⟩))) hv] at hk
  exact ⟨b, hb, hk.hd⟩
end
end Go.Fv

/-
  What arrives: structs, field by field.
-/
namespace Go.Fv
set_option linter.unusedSectionVars false
open Go.RowKit
set_option linter.unusedVariables false
set_option linter.unusedSimpArgs false
section
variable {H : Type} {enc : TypeId × Value → H} {P : Program} {w : World} {t : TypeId} {cs : List Value} {x : DataW H × List MemPlace}
theorem Rd.at {fs : Array Field} (ht : P.underlying t = some (.struct fs)) (h : Rd enc P w t cs x) (i : Nat) (f : Field) (hf : fs[i]? = some f) (o n : Nat) (ho : f.offset = o) (hn : P.cellsOf f.type = n) : ∃ y, Rd enc P w f.type ((cs.drop o).take n) y := by
  obtain ⟨_, xs, _, _, hx⟩ := h.fields ht
  obtain ⟨y, _, hy⟩ := hx i f hf
  rw [ho, hn] at hy
  exact ⟨y, hy⟩
theorem Rd.len {fs : Array Field} (ht : P.underlying t = some (.struct fs)) (h : Rd enc P w t cs x) : cs.length = P.cellsOf t := (h.fields ht).1
theorem cut2 {α : Type} (l : List α) (a b : Nat) (h : l.length = a + b) : l = (l.drop 0).take a ++ (l.drop a).take b := by
  rw [List.drop_zero]
  have : (l.drop a).take b = l.drop a := List.take_of_length_le (by simp; omega)
  rw [this, List.take_append_drop]
theorem cut3 {α : Type} (l : List α) (a b c : Nat) (h : l.length = a + b + c) : l = (l.drop 0).take a ++ ((l.drop a).take b ++ (l.drop (a + b)).take c) := by
  have := cut2 (l.drop a) b c (by simp; omega)
  simp only [List.drop_drop, Nat.add_zero] at this
  rw [← this, List.drop_zero, List.take_append_drop]
/-- A struct of two fields. -/
theorem Rd.s2 {f0 f1 : Field} (ht : P.underlying t = some (.struct #[f0, f1])) (a b : Nat) (hc : P.cellsOf t = a + b) (o : f0.offset = 0 ∧ f1.offset = a) (c : P.cellsOf f0.type = a ∧ P.cellsOf f1.type = b)
    {α β : Type} {av : α → List AV} {bv : β → List AV} (h0 : ∀ cs x, Rd enc P w f0.type cs x → ∃ l, RvL (cIn w) (av l) cs) (h1 : ∀ cs x, Rd enc P w f1.type cs x → ∃ l, RvL (cIn w) (bv l) cs) (h : Rd enc P w t cs x) :
    ∃ l m, RvL (cIn w) (av l ++ bv m) cs := by
  obtain ⟨y0, r0⟩ := h.at ht 0 f0 rfl _ _ o.1 c.1
  obtain ⟨y1, r1⟩ := h.at ht 1 f1 rfl _ _ o.2 c.2
  obtain ⟨l, v0⟩ := h0 _ _ r0
  obtain ⟨m, v1⟩ := h1 _ _ r1
  refine ⟨l, m, ?_⟩
  rw [cut2 cs a b (by rw [h.len ht, hc])]
  exact v0.app v1
/-- A struct of three fields. -/
theorem Rd.s3 {f0 f1 f2 : Field} (ht : P.underlying t = some (.struct #[f0, f1, f2])) (a b d : Nat) (hc : P.cellsOf t = a + b + d) (o : f0.offset = 0 ∧ f1.offset = a ∧ f2.offset = a + b) (c : P.cellsOf f0.type = a ∧ P.cellsOf f1.type = b ∧ P.cellsOf f2.type = d)
    {α β γ : Type} {av : α → List AV} {bv : β → List AV} {gv : γ → List AV} (h0 : ∀ cs x, Rd enc P w f0.type cs x → ∃ l, RvL (cIn w) (av l) cs) (h1 : ∀ cs x, Rd enc P w f1.type cs x → ∃ l, RvL (cIn w) (bv l) cs) (h2 : ∀ cs x, Rd enc P w f2.type cs x → ∃ l, RvL (cIn w) (gv l) cs) (h : Rd enc P w t cs x) :
    ∃ l m n, RvL (cIn w) (av l ++ (bv m ++ gv n)) cs := by
  obtain ⟨y0, r0⟩ := h.at ht 0 f0 rfl _ _ o.1 c.1
  obtain ⟨y1, r1⟩ := h.at ht 1 f1 rfl _ _ o.2.1 c.2.1
  obtain ⟨y2, r2⟩ := h.at ht 2 f2 rfl _ _ o.2.2 c.2.2
  obtain ⟨l, v0⟩ := h0 _ _ r0
  obtain ⟨m, v1⟩ := h1 _ _ r1
  obtain ⟨n, v2⟩ := h2 _ _ r2
  refine ⟨l, m, n, ?_⟩
  rw [cut3 cs a b d (by rw [h.len ht, hc])]
  exact v0.app (v1.app v2)
theorem Rd.int' {k : IntKind} (ht : P.underlying t = some (.int k)) (h : Rd enc P w t cs x) : ∃ n : Int, RvL (cIn w) [.int k n] cs := by obtain ⟨n, _, h⟩ := h.int ht; exact ⟨n, h⟩
theorem Rd.str' (ht : P.underlying t = some .string) (h : Rd enc P w t cs x) : ∃ n : List UInt8, RvL (cIn w) [.str n] cs := by obtain ⟨n, _, h⟩ := h.str ht; exact ⟨n, h⟩
end
end Go.Fv

/-
  What a row's first world gives of package-level integers.
-/
namespace Go.Fv
set_option linter.unusedSectionVars false
open Go.RowKit Go.ChangeShapes Go.WideShapes
set_option linter.unusedVariables false
set_option linter.unusedSimpArgs false

def shBlk (w : World) (P : Program) (g : Nat) (k : IntKind) : Bool := match (w.heap[g]?).bind Obj.row? with
  | some (zero, t) => decide (zero.size = 1) && P.buildable t && decide (P.cellTypes P.depth t = some [t]) && (match P.underlying t with | some (.int k') => decide (k' = k) | _ => false)
  | none => false
/-- Each package-level variable of an integer type has one cell of that type. -/
def shOk (P : Program) : Bool := (List.range P.globals.size).all fun g => match intGl P g with
  | some k => shBlk (begin P (fun _ _ => 0) default).world P g k
  | none => true
theorem GlOk.of_shaped {P : Program} {w : World} (hs : shOk P = true) (h : w.ShapedOpen P) : GlOk P w := by
  intro g k hg
  have hlt : g < P.globals.size := by
    by_cases hlt : g < P.globals.size
    · exact hlt
    · unfold intGl at hg
      rw [Array.getElem?_eq_none (Nat.le_of_not_lt hlt)] at hg
      cases hg
  have h1 := List.all_eq_true.1 hs g (List.mem_range.2 hlt)
  rw [hg] at h1
  dsimp only at h1
  unfold shBlk at h1
  split at h1
  · rename_i zero t hz
    simp only [Bool.and_eq_true, decide_eq_true_eq] at h1
    obtain ⟨⟨⟨hz1, hb⟩, hc⟩, hu⟩ := h1
    have hu : P.underlying t = some (.int k) := by
      split at hu
      · rename_i k' e; rw [e, of_decide_eq_true hu]
      · cases hu
    obtain ⟨cs, hh, hsz, hr⟩ := h.1 g zero t hlt hz
    obtain ⟨ts, hts, _, hall⟩ := hr hb
    rw [hc] at hts
    cases hts
    have h1 : 0 < cs.size := by omega
    obtain ⟨u, hu', hok⟩ := hall 0 cs[0] (by simp [h1])
    have : u = t := by simpa using hu'.symm
    subst this
    unfold Cell.ok at hok
    rw [hu] at hok
    have e : cs = #[cs[0]] := by
      apply Array.ext
      · simp; omega
      · intro i h1 h2
        simp at h2
        subst h2; simp
    cases hv : cs[0] <;> rw [hv] at hok <;> simp at hok
    case int k' n =>
      obtain ⟨rfl, hk⟩ := hok
      refine ⟨n, u, ?_, by rw [hh, e, hv]⟩
      exact hk
  · cases h1

variable {H : Type} {enc : TypeId × Value → H}
/-- As the kit's, the world's shape handed on. -/
theorem handed_of_change {a : Assume} {C : Checked} {os : Os} {f : FuncId} {fn : Func} {s : ChangeSpec} {conds : List PathCond} {apart fresh handsOn again : Bool} {X : World → Array Value → Prop}
    (hX : ∀ (w w' : World) (args : Array Value), w.heap = w'.heap → X w args → X w' args)
    (own : ownKnob C.prog.godebug = none) (started : os.Started) (noInit : C.prog.inits.idxOf? f = none) (hfn : C.prog.funcs[f]? = some fn)
    (witness : ∃ (w : World) (tape : Tape) (i : Input), w.os = os ∧ (w.forCall tape i).Shaped C.prog ∧ i.vars = [] ∧ Input.okWide C.prog (w.forCall tape i) .any w.heap.size f i ∧
      ((s.pre enc C.prog fn conds apart (w.forCall tape i).memory i.args ∧ X (w.forCall tape i).memory i.args) ∧ sizedMet enc C.prog fn (OpenSpec.ofChange s) apart (w.forCall tape i).memory i.args) ∧ a.holds C.prog (lone (Frame.enter C.prog f i.args .normal) [] (w.forCall tape i)))
    (contract : ∀ (W : World) (base : Nat) (args : Array Value) (ds gs : List (DataW H)) (before : List MemPlace), W.ShapedOpen C.prog →
      (∀ (j : Nat) t v, fn.params[j]? = some t → args[j]? = some v → Value.okWide C.prog W .any base t v) →
      DataW.Whole enc C.prog fn.params.toList s.vars apart W args.toList ds gs before →
      Calls C.prog f args W fun e W' => ∃ v, e = .returned v ∧ s.post enc C.prog fn apart fresh handsOn again W args v W') :
    ReturnsInHanded a C os f .any (fun w args => (s.pre enc C.prog fn conds apart w args ∧ X w args) ∧ sizedMet enc C.prog fn (OpenSpec.ofChange s) apart w args) (s.post enc C.prog fn apart fresh handsOn again) := by
  refine returnsInHanded_of_calls own started noInit witness ?_
  intro w tape i _ hsh _ hok hpre hholds
  obtain ⟨_, _, _, fn', hfn', _, _, _, _, hval⟩ := hok
  have e : fn' = fn := Option.some.inj (hfn'.symm.trans hfn)
  subst e
  obtain ⟨⟨⟨ds, gs, before, hw, hc⟩, hx⟩, hz⟩ := hpre
  have hw' := DataW.Whole.of_heap (w' := w.forCall tape i) (by rfl) hw
  refine (contract (w.forCall tape i) w.heap.size i.args ds gs before hsh hval hw').mono fun e W' ⟨v, he, hp⟩ => ?_
  subst he
  exact ChangeSpec.post_blind hp
end Go.Fv
