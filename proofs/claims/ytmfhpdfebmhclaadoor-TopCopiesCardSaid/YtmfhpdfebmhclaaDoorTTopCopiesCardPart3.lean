/-
  A part of the proof of the claim: walks over the program's functions and the plain laws that these need. No condition of its own.
-/
import Derived.Test.YtmfhpdfebmhclaaDoorTTopCopiesCardPart2
import Derived.Test.YtmfhpdfebmhclaaDoorFvPart9
import Derived.Test.YtmfhpdfebmhclaaDoorFvPart10
import Derived.Shelf.SlicesE.DeleteFunc
import Derived.WalkKit
import Derived.Test.YtmfhpdfebmhclaaDoorTTopCopiesCardPart1
/- Groups of prints, in plain words. -/
namespace Go.Fv.T
open Go Go.Proofs
set_option linter.unusedSimpArgs false
set_option linter.unusedVariables false
set_option linter.unnecessarySimpa false
set_option maxRecDepth 8000

def gAv (g : List Int) : List AV := [.ro (.ints .i64 g)]
instance : FNoId gAv := ⟨fun _ => rfl⟩
theorem g_elem (l : List (List Int)) {i : Nat} (h : i < l.length) : (l.map gAv).getD i [] = [.ro (.ints .i64 (l.getD i []))] := by
  simp [List.getD_eq_getElem?_getD, h, gAv]
def near (l : List (List UInt8)) (most : Int) (s : List UInt8) (g : List Int) : Bool := decide ((apN (l.getD (g.getD 0 0).toNat []) s : Int) ≤ most)
def cpStep (l : List (List UInt8)) (most : Int) (G : List (List Int)) (i : Nat) : List (List Int) :=
  if firstAt (near l most (l.getD i [])) G 0 < 0 then G ++ [[(i : Int)]] else G.set (firstAt (near l most (l.getD i [])) G 0).toNat (G.getD (firstAt (near l most (l.getD i [])) G 0).toNat [] ++ [(i : Int)])
def cpN (l : List (List UInt8)) (most : Int) : Nat → List (List Int)
  | 0 => []
  | i + 1 => cpStep l most (cpN l most i) i
theorem firstAt_bd {α : Type} (q : α → Bool) : ∀ (l : List α) (i : Nat), firstAt q l i = -1 ∨ ((i : Int) ≤ firstAt q l i ∧ firstAt q l i < i + l.length)
  | [], i => .inl rfl
  | x :: l, i => by
    simp only [firstAt]
    split
    · exact .inr ⟨by omega, by rw [List.length_cons]; omega⟩
    · rcases firstAt_bd q l (i + 1) with h | ⟨h1, h2⟩
      · exact .inl h
      · refine .inr ⟨by omega, ?_⟩
        rw [List.length_cons]; omega
theorem cpStep_len (l : List (List UInt8)) (most : Int) (G : List (List Int)) (i : Nat) : (cpStep l most G i).length ≤ G.length + 1 := by
  unfold cpStep
  split
  · simp
  · rw [List.length_set]; omega
theorem cpN_len (l : List (List UInt8)) (most : Int) : ∀ i, (cpN l most i).length ≤ i
  | 0 => Nat.le_refl _
  | i + 1 => Nat.le_trans (cpStep_len _ _ _ _) (Nat.succ_le_succ (cpN_len l most i))
def GOk (G : List (List Int)) (i : Nat) : Prop := ∀ g, g ∈ G → 0 < g.length ∧ g.length ≤ i ∧ ∀ x, x ∈ g → 0 ≤ x ∧ x < i
theorem GOk.step {G : List (List Int)} {i : Nat} (h : GOk G i) (l : List (List UInt8)) (most : Int) : GOk (cpStep l most G i) (i + 1) := by
  intro g hg
  unfold cpStep at hg
  split at hg
  · rcases List.mem_append.1 hg with hg | hg
    · obtain ⟨h1, h2, h3⟩ := h g hg
      exact ⟨h1, by omega, fun x hx => by have := h3 x hx; omega⟩
    · rw [List.mem_singleton] at hg; subst hg
      exact ⟨by simp, by simp, fun x hx => by rw [List.mem_singleton] at hx; subst hx; omega⟩
  · rename_i h0
    rcases firstAt_bd (near l most (l.getD i [])) G 0 with hb | ⟨hb1, hb2⟩
    · rw [hb] at h0; omega
    · generalize firstAt (near l most (l.getD i [])) G 0 = k at *
      obtain ⟨j, rfl⟩ : ∃ j : Nat, k = j := ⟨k.toNat, by omega⟩
      rw [Int.toNat_natCast] at hg
      have hj : j < G.length := by omega
      rcases List.mem_or_eq_of_mem_set hg with hg | hg
      · obtain ⟨h1, h2, h3⟩ := h g hg
        exact ⟨h1, by omega, fun x hx => by have := h3 x hx; omega⟩
      · subst hg
        obtain ⟨h1, h2, h3⟩ := h (G.getD j []) (by rw [getD_lt hj]; exact List.getElem_mem hj)
        refine ⟨by simp, by rw [List.length_append]; simp only [List.length_cons, List.length_nil]; omega, fun x hx => ?_⟩
        rcases List.mem_append.1 hx with hx | hx
        · have := h3 x hx; omega
        · rw [List.mem_singleton] at hx; subst hx; omega
theorem cpN_ok (l : List (List UInt8)) (most : Int) : ∀ i, GOk (cpN l most i) i
  | 0 => fun g hg => by cases hg
  | i + 1 => (cpN_ok l most i).step l most

/-! ### Groups as owned rows -/
def gRs (G : List (List Int)) : List RowV := G.map (.ints .i64)
theorem gRs_len (G : List (List Int)) : (gRs G).length = G.length := by simp [gRs]
def gI (e : TypeId) (G : List (List Int)) : List Item := (gRs G).map (.row e)
theorem gI_get (e : TypeId) (G : List (List Int)) {j : Nat} (h : j < G.length) : (gI e G)[j]? = some (.row e (.ints .i64 (G.getD j []))) := by
  simp [gI, gRs, h, List.getD_eq_getElem?_getD]
theorem gRs_noid (G : List (List Int)) : ∀ r, r ∈ gRs G → noIdR r = true := by
  intro r hr
  obtain ⟨g, _, rfl⟩ := List.mem_map.1 hr
  rfl
theorem argOk_groups {rows : List (Nat × Item)} {i b n : Nat} {e e2 : TypeId} (G : List (List Int)) (h : lk rows i = some (.row e (.objs 1 (famO fo b G.length)))) (hf : ∀ j, j < G.length → lk rows (j + b) = some (.row e2 (.ints .i64 (G.getD j [])))) :
    argOkN rows (n + 2) (.own i) (.ro (.objs 1 (G.map gAv))) := by
  refine argOkN_objs h (allOkL_get (by simp [famO]) fun j h1 h2 => ?_) fun hn => ?_
  · have hj : j < G.length := by simpa using h2
    have e1 : (famO fo b G.length)[j] = [.own (j + b)] := by simp [famO, fo]
    have e2' : (G.map gAv)[j] = [.ro (.ints .i64 (G.getD j []))] := by simp [gAv, List.getD_eq_getElem?_getD, hj]
    rw [e1, e2']
    exact ⟨_, _, argOkN_row (hf j hj) rfl, rfl, rfl⟩
  · by_cases h0 : 0 < G.length
    · rw [noId_fo h0] at hn; cases hn
    · have : G = [] := List.eq_nil_of_length_eq_zero (by omega)
      subst this; rfl
set_option maxHeartbeats 1000000 in
theorem indexFuncG_ok (l : List (List Int)) (f : Nat) (caps : List AV) [CapsOk caps] (q : (List Int) → Bool) (hq : ∀ x : (List Int), x ∈ l → FnFr Tryd.prog f ([.ro (.ints .i64 x)] ++ caps) (.bool (q x)) []) :
    FnOk Tryd.prog 10 [.ro (.objs 1 (l.map gAv)), .fn f caps] (.int .i64 (firstAt q l 0)) [] := by
  refine FnOk.of_vc Tryd.func10 rfl (by decide) (by simp [Tryd.f10]) [.tmp 4] rfl fun w0 T0 _ => ?_
  simp only [Tryd.f10, argEnv]
  (repeat' first | with_reducible (first | refine Asm.intro fun _ => ?_ | refine Chk.g ?_ | refine AnyI.i64 fun _ _ => ?_ | refine LetW.g ?_ | refine LetW.h ?_ | refine Ite.t fun _ => ?_ | refine Ite.f fun _ => ?_ | refine Ite.decide (fun _ => ?_) fun _ => ?_ | refine Ite.bool (fun _ => ?_) fun _ => ?_ | refine And.intro ?_ ?_) | omega | simp (maxSteps := 1000000) only [go_sem, reduceCtorEq, Nat.reduceLT, Nat.reduceLeDiff, reduceIte, ↓reduceIte, Nat.reduceEqDiff, Nat.reduceAdd, Nat.reduceMul, Nat.reduceSub, Int.reduceLE, Int.reduceLT, Int.reduceNeg, Int.reduceToNat, List.length_map])
  refine VcLoop.intro (fun i : Nat => ⟨19, [(0, .ro (.objs 1 (l.map gAv))), (1, .fn f caps), (7, .int .i64 l.length), (8, .int .i64 i)], [], 0⟩) (fun i => i ≤ l.length ∧ firstAt q (l.drop i) i = firstAt q l 0) (fun i => l.length - i) 0 ?_ ⟨Nat.zero_le _, rfl⟩ fun i hI => ?_
  · refine Ent.auto0 rfl ?_ ?_ <;> simp only [go_sem, reduceCtorEq, reduceIte, Nat.reduceEqDiff, Nat.reduceLT, Nat.reduceLeDiff, Int.natCast_succ]
  obtain ⟨hl, hI⟩ := hI
  by_cases hlt : i < l.length
  · have he := g_elem l hlt
    have hd := drop_at l [] hlt
    rw [hd, firstAt] at hI
    (repeat' first | with_reducible (first | refine Asm.intro fun _ => ?_ | refine Chk.g ?_ | refine AnyI.i64 fun _ _ => ?_ | refine LetW.g ?_ | refine LetW.h ?_ | refine Ite.t fun _ => ?_ | refine Ite.f fun _ => ?_ | refine Ite.decide (fun _ => ?_) fun _ => ?_ | refine Ite.bool (fun _ => ?_) fun _ => ?_ | refine And.intro ?_ ?_) | omega | simp (maxSteps := 1000000) only [go_sem, reduceCtorEq, Nat.reduceLT, Nat.reduceLeDiff, reduceIte, ↓reduceIte, Nat.reduceEqDiff, Nat.reduceAdd, Nat.reduceMul, Nat.reduceSub, Int.reduceLE, Int.reduceLT, Int.reduceNeg, Int.reduceToNat, List.length_map, elemA, he])
    refine VcCall.fr (args' := [.ro (.ints .i64 (l.getD i []))] ++ caps) (hq _ (by rw [getD_lt hlt]; exact List.getElem_mem hlt)) (by simp [argOkL, allOk, argOkN, allOk_caps]) 0 rfl (by simp [rowsB]) ?_
    (repeat' first | with_reducible (first | refine Asm.intro fun _ => ?_ | refine Chk.g ?_ | refine AnyI.i64 fun _ _ => ?_ | refine LetW.g ?_ | refine LetW.h ?_ | refine Ite.t fun _ => ?_ | refine Ite.f fun _ => ?_ | refine Ite.decide (fun _ => ?_) fun _ => ?_ | refine Ite.bool (fun _ => ?_) fun _ => ?_ | refine And.intro ?_ ?_) | omega | simp (maxSteps := 1000000) only [go_sem, reduceCtorEq, Nat.reduceLT, Nat.reduceLeDiff, reduceIte, ↓reduceIte, Nat.reduceEqDiff, Nat.reduceAdd, Nat.reduceMul, Nat.reduceSub, Int.reduceLE, Int.reduceLT, Int.reduceNeg, Int.reduceToNat])
    · rename_i h2
      rw [if_pos h2] at hI
      refine Ret.auto 0 ?_ rfl ?_ <;> simp only [go_sem, reduceCtorEq, reduceIte, Nat.reduceEqDiff, Nat.reduceLT, Nat.reduceLeDiff, Int.natCast_succ, Post]
      rw [← hI]
    · rename_i h2
      rw [if_neg (by rw [h2]; exact Bool.false_ne_true)] at hI
      refine ⟨i + 1, Ent.auto0 rfl ?_ ?_, ⟨by omega, hI⟩, by omega⟩ <;> simp only [go_sem, reduceCtorEq, reduceIte, Nat.reduceEqDiff, Nat.reduceLT, Nat.reduceLeDiff, Int.natCast_succ]
      all_goals rfl
  · have e : i = l.length := by omega
    subst e
    rw [List.drop_length] at hI
    (repeat' first | with_reducible (first | refine Asm.intro fun _ => ?_ | refine Chk.g ?_ | refine AnyI.i64 fun _ _ => ?_ | refine LetW.g ?_ | refine LetW.h ?_ | refine Ite.t fun _ => ?_ | refine Ite.f fun _ => ?_ | refine Ite.decide (fun _ => ?_) fun _ => ?_ | refine Ite.bool (fun _ => ?_) fun _ => ?_ | refine And.intro ?_ ?_) | omega | simp (maxSteps := 1000000) only [go_sem, reduceCtorEq, Nat.reduceLT, Nat.reduceLeDiff, reduceIte, ↓reduceIte, Nat.reduceEqDiff, Nat.reduceAdd, Nat.reduceMul, Nat.reduceSub, Int.reduceLE, Int.reduceLT, Int.reduceNeg, Int.reduceToNat, List.length_map])
    refine Ret.auto 0 ?_ rfl ?_ <;> simp only [go_sem, reduceCtorEq, reduceIte, Nat.reduceEqDiff, Nat.reduceLT, Nat.reduceLeDiff, Int.natCast_succ, Post]
    rw [← hI]; rfl

theorem near_ok (l : List (List UInt8)) (most : Int) (s : List UInt8) (g : List Int) (h0 : 0 < g.length) (h1 : 0 ≤ g.getD 0 0) (h2 : g.getD 0 0 < l.length) (h3 : (l.getD (g.getD 0 0).toNat []).length ≤ s.length) :
    FnOk Tryd.prog 20 [.ro (.ints .i64 g), .cell [.ro (.strs l)], .cell [.str s], .cell [.int .i64 most]] (.bool (near l most s g)) [] := by
  have k := apart_ok (l.getD (g.getD 0 0).toNat []) s h3
  unfold near
  have h0' : (0 : Int) < g.length := by omega
  generalize apN (l.getD (g.getD 0 0).toNat []) s = n at *
  refine FnOk.of_vc Tryd.func20 rfl (by decide) (by simp [Tryd.f20]) [.tmp 5] rfl fun w0 T0 _ => ?_
  simp only [Tryd.f20, argEnv]
  (repeat' first | with_reducible (first | refine Asm.intro fun _ => ?_ | refine Chk.g ?_ | refine AnyI.i64 fun _ _ => ?_ | refine LetW.g ?_ | refine LetW.h ?_ | refine Ite.t fun _ => ?_ | refine Ite.f fun _ => ?_ | refine Ite.decide (fun _ => ?_) fun _ => ?_ | refine Ite.bool (fun _ => ?_) fun _ => ?_ | refine And.intro ?_ ?_) | omega | simp (maxSteps := 1000000) only [go_sem, reduceCtorEq, Nat.reduceLT, Nat.reduceLeDiff, reduceIte, ↓reduceIte, Nat.reduceEqDiff, Nat.reduceAdd, Nat.reduceMul, Nat.reduceSub, Int.reduceLE, Int.reduceLT, Int.reduceNeg, Int.reduceToNat])
  refine VcDraw.lex [] [] (by kernel_rfl) (by kernel_rfl) ?_
  (repeat' first | with_reducible (first | refine Asm.intro fun _ => ?_ | refine Chk.g ?_ | refine AnyI.i64 fun _ _ => ?_ | refine LetW.g ?_ | refine LetW.h ?_ | refine Ite.t fun _ => ?_ | refine Ite.f fun _ => ?_ | refine Ite.decide (fun _ => ?_) fun _ => ?_ | refine Ite.bool (fun _ => ?_) fun _ => ?_ | refine And.intro ?_ ?_) | omega | simp (maxSteps := 1000000) only [go_sem, reduceCtorEq, Nat.reduceLT, Nat.reduceLeDiff, reduceIte, ↓reduceIte, Nat.reduceEqDiff, Nat.reduceAdd, Nat.reduceMul, Nat.reduceSub, Int.reduceLE, Int.reduceLT, Int.reduceNeg, Int.reduceToNat])
  (refine QV.intro (.int .i64 n) ?_ ?_; focus ((repeat' first | with_reducible (first | refine Asm.intro fun _ => ?_ | refine Chk.g ?_ | refine AnyI.i64 fun _ _ => ?_ | refine LetW.g ?_ | refine LetW.h ?_ | refine Ite.t fun _ => ?_ | refine Ite.f fun _ => ?_ | refine Ite.decide (fun _ => ?_) fun _ => ?_ | refine Ite.bool (fun _ => ?_) fun _ => ?_ | refine And.intro ?_ ?_) | omega | simp (maxSteps := 1000000) only [go_sem, reduceCtorEq, Nat.reduceLT, Nat.reduceLeDiff, reduceIte, ↓reduceIte, Nat.reduceEqDiff, Nat.reduceAdd, Nat.reduceMul, Nat.reduceSub, Int.reduceLE, Int.reduceLT, Int.reduceNeg, Int.reduceToNat]); refine VcCall.fr (FnFr.of_ok (k) rfl rfl) (by simp only [noIdR_ok, argOkL, argOk, allOk, argOkN, List.drop_zero, lk, reduceIte, reduceCtorEq, Nat.reduceEqDiff, Option.some.injEq, Item.row.injEq, Item.box.injEq, AV.ro.injEq, exists_eq_left, exists_and_left, exists_eq_left', exists_eq_right, and_assoc, and_true, true_and, List.cons.injEq, exists_eq', exists_eq]) 0 rfl (by simp [rowsB]) ?_; (repeat' first | with_reducible (first | refine Asm.intro fun _ => ?_ | refine Chk.g ?_ | refine AnyI.i64 fun _ _ => ?_ | refine LetW.g ?_ | refine LetW.h ?_ | refine Ite.t fun _ => ?_ | refine Ite.f fun _ => ?_ | refine Ite.decide (fun _ => ?_) fun _ => ?_ | refine Ite.bool (fun _ => ?_) fun _ => ?_ | refine And.intro ?_ ?_) | omega | simp (maxSteps := 1000000) only [go_sem, reduceCtorEq, Nat.reduceLT, Nat.reduceLeDiff, reduceIte, ↓reduceIte, Nat.reduceEqDiff, Nat.reduceAdd, Nat.reduceMul, Nat.reduceSub, Int.reduceLE, Int.reduceLT, Int.reduceNeg, Int.reduceToNat])))
  (repeat' first | with_reducible (first | refine Asm.intro fun _ => ?_ | refine Chk.g ?_ | refine AnyI.i64 fun _ _ => ?_ | refine LetW.g ?_ | refine LetW.h ?_ | refine Ite.t fun _ => ?_ | refine Ite.f fun _ => ?_ | refine Ite.decide (fun _ => ?_) fun _ => ?_ | refine Ite.bool (fun _ => ?_) fun _ => ?_ | refine And.intro ?_ ?_) | omega | simp (maxSteps := 1000000) only [go_sem, reduceCtorEq, Nat.reduceLT, Nat.reduceLeDiff, reduceIte, ↓reduceIte, Nat.reduceEqDiff, Nat.reduceAdd, Nat.reduceMul, Nat.reduceSub, Int.reduceLE, Int.reduceLT, Int.reduceNeg, Int.reduceToNat])
  refine Ret.auto 0 ?_ rfl ?_ <;> simp only [go_sem, reduceCtorEq, reduceIte, Nat.reduceEqDiff, Nat.reduceLT, Nat.reduceLeDiff, Int.natCast_succ, Post]
end Go.Fv.T

/- slices.DeleteFunc of rows of rows, by the contract of the shelf, as a contract that writes the caller's memory. -/
namespace Go.Proofs
open Go.Shelf
def Tryd.lDel_ren : Go.Shelf.Ren := ⟨fun | 10 => 22 | 6 => 10 | n => n, fun | 22 => 33 | 23 => 23 | 25 => 38 | 3 => 3 | 4 => 4 | 0 => 0 | n => n, fun | n => n⟩
theorem Tryd.lDel : Go.Proofs.SlLaysH.n10 Tryd.prog Tryd.lDel_ren := {
  mixed := by kernel_rfl
  f6 := ⟨Tryd.f10.name, by decide, Tryd.func10.trans (congrArg some (by kernel_rfl))⟩
  f10 := ⟨Tryd.f22.name, by decide, Tryd.func22.trans (congrArg some (by kernel_rfl))⟩
  t0 := Tryd.underlying0
  a0 := Tryd.isAgg0
  z0 := Tryd.sizeOf0
  v0 := Tryd.zeroValue0
  t3 := Tryd.underlying3
  a3 := Tryd.isAgg3
  z3 := Tryd.sizeOf3
  v3 := Tryd.zeroValue3
  t4 := Tryd.underlying4
  a4 := Tryd.isAgg4
  z4 := Tryd.sizeOf4
  v4 := Tryd.zeroValue4
  t22 := Tryd.underlying33
  a22 := Tryd.isAgg33
  z22 := Tryd.sizeOf33
  v22 := Tryd.zeroValue33
  a23 := Tryd.isAgg23
  z23 := Tryd.sizeOf23
  t25 := Tryd.underlying38
  a25 := Tryd.isAgg38
  z25 := Tryd.sizeOf38
  v25 := Tryd.zeroValue38 }
end Go.Proofs
namespace Go.Fv.T
open Go Go.Proofs Go.RowKit Go.Sort
set_option linter.unusedSimpArgs false
set_option linter.unusedVariables false
set_option linter.unnecessarySimpa false
set_option maxRecDepth 8000

def bigG (G : List (List Int)) : List (List Int) := G.filter fun x => decide (2 ≤ x.length)
def slLen : Value → Nat
  | .slice _ n _ => n
  | _ => 0
def SlV : Type := { v : Value // ∃ a n c, v = .slice a n c }
def SlV.nl : SlV := ⟨.slice none 0 0, none, 0, 0, rfl⟩
instance : Inhabited SlV := ⟨SlV.nl⟩
def SlV.enc (x : SlV) : Value := x.1
def SlV.small (x : SlV) : Bool := decide (slLen x.1 < 2)
theorem SlV.one : OneCell SlV.enc := fun ⟨_, _, _, _, h⟩ => by subst h; rfl
theorem ro_slice {c : Ctx} {k : IntKind} {g : List Int} {v : Value} (h : Rv c (.ro (.ints k g)) v) : (∃ a n cp, v = .slice a n cp) ∧ slLen v = g.length := by
  cases h with
  | roNil _ hr _ =>
    refine ⟨⟨_, _, _, rfl⟩, ?_⟩
    have : ∀ cells, RowC c (.ints k g) cells → cells.length = g.length := by
      intro cells h
      generalize hq : RowV.ints k g = r at h
      cases h <;> cases hq
      simp
    exact (this _ hr)
  | ro _ a len cap cells hr hl _ _ _ _ => exact ⟨⟨_, _, _, rfl⟩, by rw [← hl]; rfl⟩
/-- The cells of a row of rows. -/
theorem groups_cells {c : Ctx} : ∀ {G : List (List Int)} {cells : List Value}, ObjsC c 1 (G.map gAv) cells → ∃ d : List SlV, cells = d.map SlV.enc ∧ d.length = G.length
  | [], _, h => by cases h; exact ⟨[], rfl, rfl⟩
  | g :: G, _, h => by
    rw [List.map_cons] at h
    cases h with
    | cons _ _ vs _ cells ho hl ht =>
      obtain ⟨d, h1, h2⟩ := groups_cells ht
      unfold gAv at ho
      cases ho with
      | cons _ v _ _ hv _ hn =>
        cases hn
        obtain ⟨he, _⟩ := ro_slice hv
        exact ⟨⟨v, he⟩ :: d, by rw [h1]; rfl, congrArg Nat.succ h2⟩
theorem groups_filter {c c' : Ctx} (h : ∀ b, c.T b → b < c.w.heap.size → c'.T b ∧ c'.w.heap[b]? = c.w.heap[b]?) : ∀ {G : List (List Int)} {d : List SlV}, ObjsC c 1 (G.map gAv) (d.map SlV.enc) →
    ObjsC c' 1 ((bigG G).map gAv) ((d.filter fun x => !x.small).map SlV.enc) ∧ (d.filter fun x => !x.small).length = (bigG G).length
  | [], [], _ => ⟨.nil 1, rfl⟩
  | [], x :: d, h' => by simp at h'; cases h'
  | g :: G, [], h' => by
    simp only [List.map_cons, List.map_nil] at h'
    generalize hq : ([] : List Value) = q at h'
    cases h' with
    | cons _ _ vs _ cells ho hl ht => 
      have := congrArg List.length hq
      rw [List.length_append, hl] at this
      simp at this
      omega
  | g :: G, x :: d, h' => by
    simp only [List.map_cons] at h'
    generalize hq : x.enc :: d.map SlV.enc = q at h'
    cases h' with
    | cons _ _ vs _ cells ho hl ht =>
      unfold gAv at ho
      cases ho with
      | cons _ v _ _ hv h1 hn =>
        cases hn
        simp only [List.cons_append, List.nil_append, List.cons.injEq] at hq
        obtain ⟨rfl, rfl⟩ := hq
        obtain ⟨ih1, ih2⟩ := groups_filter h ht
        obtain ⟨_, hlen⟩ := ro_slice hv
        have hs : (!x.small) = decide (2 ≤ g.length) := by
          have : slLen x.1 = g.length := hlen
          simp only [SlV.small, this]
          by_cases h2 : 2 ≤ g.length
          · rw [decide_eq_true h2, decide_eq_false (by omega)]; rfl
          · rw [decide_eq_false h2, decide_eq_true (by omega)]; rfl
        simp only [bigG, List.filter_cons, hs] at ih1 ih2 ⊢
        by_cases h2 : 2 ≤ g.length
        · rw [decide_eq_true h2]
          simp only [if_true, List.map_cons, List.length_cons, ih2, and_true]
          exact .cons 1 [.ro (.ints .i64 g)] [x.enc] _ _ (.cons _ _ _ _ (Rv.noid h hv rfl) h1 .nil) rfl ih1
        · rw [decide_eq_false h2]
          simp only [Bool.false_eq_true, if_false]
          exact ⟨ih1, ih2⟩
theorem del_heap {α : Type} [Inhabited α] (enc : α → Value) (w : World) (n g : Nat) (d : Array α) {cur : Array Value} {e : TypeId} {fz : Nat × Nat} (hh : w.heap[g]? = some (.cells cur e fz)) :
    (Go.Sort.putRow enc (Go.Sort.ahead w n) g 0 d).heap[g]? = some (.cells (putCells enc 0 d cur) e fz) := by
  show ((w.heap.modify g (onCells (putCells enc 0 d))))[g]? = _
  rw [Array.getElem?_modify, if_pos rfl, hh]
  rfl
theorem del_other {α : Type} [Inhabited α] (enc : α → Value) (w : World) (n g : Nat) (d : Array α) {k : Nat} (hne : ¬ g = k) :
    (Go.Sort.putRow enc (Go.Sort.ahead w n) g 0 d).heap[k]? = w.heap[k]? := by
  show ((w.heap.modify g (onCells (putCells enc 0 d))))[k]? = _
  rw [Array.getElem?_modify, if_neg hne]
theorem put_size {α : Type} [Inhabited α] (enc : α → Value) (d : Array α) (c : Array Value) : (putCells enc 0 d c).size = c.size := by simp [putCells]
theorem put_take {α : Type} [Inhabited α] (enc : α → Value) (l : List α) (c : Array Value) (n : Nat) (hn : l.length = n) (hc : n ≤ c.size) : (putCells enc 0 l.toArray c).toList.take n = l.map enc := by
  apply List.ext_getElem?
  intro j
  by_cases hj : j < n
  · rw [List.getElem?_take_of_lt hj, List.getElem?_map]
    have h1 : j < c.size := by omega
    have h2 : j < l.length := by omega
    have h3 : (putCells enc 0 l.toArray c)[j]? = some (enc l.toArray[j]!) := by
      simp only [putCells, Array.getElem?_mapIdx, Array.getElem?_eq_getElem h1, Option.map_some]
      rw [if_pos ⟨Nat.zero_le _, by simpa using h2⟩, Nat.sub_zero]
    rw [Array.getElem?_toList, h3]
    simp [h2]
  · rw [List.getElem?_eq_none (by simp; omega), List.getElem?_eq_none (by simp; omega)]
set_option maxHeartbeats 1000000 in
theorem delGroups_io (G : List (List Int)) (hG : G ≠ []) (f : Nat) (eg : ∀ args w, (callFunc f args).run Tryd.prog w = .ok (.enter f args) w) (hf : ∀ (W : World) a n c, FnGives Tryd.prog f #[] #[.slice a n c] (.bool (decide (n < 2))) W) :
    FnIO Tryd.prog 22 [.own 0, .fn f []] [(0, .row 23 (.objs 1 (G.map gAv)))] 1 (.own 1) [(1, .row 23 (.objs 1 ((bigG G).map gAv)))] := by
  refine ⟨⟨_, Tryd.func22, by kernel_rfl, by kernel_rfl⟩, fun w T g m0 vals ⟨hrow, _, hd⟩ hgl hng hv => ?_⟩
  obtain ⟨_, n, cells, hr, hn, ⟨hlen, hcase⟩, hO⟩ := hrow 0 _ rfl
  generalize hq : RowV.objs 1 (G.map gAv) = r at hr hn hlen hcase
  cases hr with
  | bools => cases hq
  | ints => cases hq
  | strs => cases hq
  | objs sz l _ hz ho =>
  cases hq
  obtain ⟨d, rfl, hdl⟩ := groups_cells ho
  have hnG : n = G.length := by rw [← hn]; simp [RowV.len]
  subst hnG
  have hGp : 0 < G.length := List.length_pos_iff.2 hG
  cases hv with
  | cons _ v0 _ vs h0 hv2 =>
  cases hv2 with
  | cons _ vf _ vs2 hf0 hv3 =>
  cases hv3
  cases h0 with
  | own _ hi h1 =>
  cases hf0 with
  | fn _ _ us hus =>
  cases hus
  rcases hcase with ⟨hv, h00⟩ | ⟨g0, cap, cur, fz, hv, hMk, hh, hnc, hcm, hcs, htk⟩
  · omega
  rw [show (RowV.objs 1 (G.map gAv)).sz = 1 from rfl, Nat.mul_one] at hcs htk
  have hlt : g0 < w.heap.size := (Array.getElem?_eq_some_iff.1 hh).1
  have hcell : ∀ j, j < d.length → cur[j]? = some (SlV.enc d.toArray[j]!) := by
    intro j hj
    have h1 : (cur.toList.take G.length)[j]? = (d.map SlV.enc)[j]? := by rw [htk]
    rw [List.getElem?_take_of_lt (by omega), List.getElem?_map, Array.getElem?_toList] at h1
    rw [h1]; simp [hj]
  have hH : Holds SlV.enc w g0 0 d.toArray := by
    intro j hj
    have hj' : j < d.length := by simpa using hj
    constructor
    · simp [World.cell?, hh, hcell j hj']
    · simp only [World.frozen?, hh]
      rcases hMk with rfl | hMk
      · simp
      · obtain ⟨lo, hi⟩ := fz
        have : cur.size ≤ lo := hMk
        simp; omega
  rw [show [m0 0, Value.func (.func f) #[] [].toArray].toArray = #[m0 0, .func (.func f) #[] #[]] from rfl, hv]
  have hsz : d.toArray.size = G.length := by simp [hdl]
  have hmax : maxLen = 9223372036854775807 := rfl
  have hcall := AnyE.slices_DeleteFunc Tryd.lDel SlV.enc SlV.one SlV.small f #[] eg SlV.nl (fun w => by have := Tryd.zeroValue23 w; exact this) g0 0 cap d.toArray w
    (fun W ⟨x, a, n, c, hx⟩ _ => by subst hx; exact hf W a n c) (fun q os dk ⟨x, a, n, c, hx⟩ _ => by subst hx; exact hf _ a n c) hH (by rw [hsz]; omega) (by rw [hsz]; omega)
  rw [hsz] at hcall
  refine Calls.mono hcall ?_
  rintro x w' ⟨rfl, q, rfl⟩
  have hgO := hO g0 (by rw [hv]; rfl)
  have hTl : d.toArray.toList = d := by simp
  rw [hTl]
  generalize hD : (d.filter fun x => !x.small) = D
  have hDl : D.length ≤ G.length := by rw [← hD, ← hdl]; exact List.length_filter_le _ _
  generalize hE : D ++ List.replicate (G.length - D.length) SlV.nl = E
  have hEl : E.length = G.length := by rw [← hE]; simp; omega
  have hnh := del_heap SlV.enc w q g0 E.toArray hh
  have hoth : ∀ k, ¬ g0 = k → (Go.Sort.putRow SlV.enc (Go.Sort.ahead w q) g0 0 E.toArray).heap[k]? = w.heap[k]? := fun k hk => del_other SlV.enc w q g0 E.toArray hk
  have hsize : (Go.Sort.putRow SlV.enc (Go.Sort.ahead w q) g0 0 E.toArray).heap.size = w.heap.size := by
    show (w.heap.modify g0 _).size = _
    simp
  have hos : (Go.Sort.putRow SlV.enc (Go.Sort.ahead w q) g0 0 E.toArray).os = w.os := rfl
  have htp : (Go.Sort.putRow SlV.enc (Go.Sort.ahead w q) g0 0 E.toArray).tape = w.tape := rfl
  have hout : (Go.Sort.putRow SlV.enc (Go.Sort.ahead w q) g0 0 E.toArray).output = w.output := rfl
  generalize Go.Sort.putRow SlV.enc (Go.Sort.ahead w q) g0 0 E.toArray = w' at *
  refine ⟨_, rfl, ⟨hos, htp, hout, by omega, fun k hk hng' => hoth k fun e => hng' (e ▸ hgO)⟩, fun i => if i = 1 then .slice (some ⟨g0, 0, none⟩) D.length cap else m0 i, 2, fun i hi => by simp; omega, by omega, ?_, ?_, ?_⟩
  · exact .own 1 (by show (1 : Nat) < 2; omega) rfl
  · intro i it hi
    have hi1 : i = 1 := by
      simp only [lk] at hi
      split at hi
      · rename_i h; exact h.symm
      · cases hi
    subst hi1
    have hit : it = Item.row 23 (.objs 1 ((bigG G).map gAv)) := by simp [lk] at hi; exact hi.symm
    subst hit
    obtain ⟨k1, k2⟩ := groups_filter (c' := ⟨w', allow ⟨fun b => T b ∨ g b, g⟩ w.heap.size (fun i => if i = 1 then .slice (some ⟨g0, 0, none⟩) D.length cap else m0 i) [(1, .row 23 (.objs 1 ((bigG G).map gAv)))], fun i => if i = 1 then .slice (some ⟨g0, 0, none⟩) D.length cap else m0 i, 2⟩) (fun b hb _ => by
      have hne : ¬ g0 = b := fun e => hd b hb (e ▸ hgO)
      refine ⟨⟨.inr (.inl hb), fun i it hi e => ?_⟩, hoth b hne⟩
      have hi1 : i = 1 := by
        simp only [lk] at hi
        split at hi
        · rename_i h; exact h.symm
        · cases hi
      subst hi1
      simp [Fv.blk] at e
      exact hne e) ho
    rw [hD] at k1 k2
    refine ⟨by omega, D.length, D.map SlV.enc, .objs 1 _ _ (by decide) k1, by rw [k2]; simp [RowV.len], ⟨by simp [RowV.sz], .inr ⟨g0, cap, _, fz, rfl, by rw [put_size]; exact hMk, hnh, by omega, hcm, by rw [put_size, hcs]; exact (Nat.mul_one _).symm, ?_⟩⟩, fun b hb => ?_⟩
    · rw [show (RowV.objs 1 ((bigG G).map gAv)).sz = 1 from rfl, Nat.mul_one]
      have h1 := put_take SlV.enc E cur G.length hEl (by omega)
      have h2 : (putCells SlV.enc 0 E.toArray cur).toList.take D.length = ((putCells SlV.enc 0 E.toArray cur).toList.take G.length).take D.length := by rw [List.take_take, Nat.min_eq_left hDl]
      rw [h2, h1, ← hE, List.map_append, List.take_left' (by simp)]
    · simp [Fv.blk] at hb
      subst hb
      exact .inr ⟨hgO, .inr hgO⟩
  · intro i j it jt b hi hj _ _
    have aux : ∀ q x, lk [(1, Item.row 23 (.objs 1 ((bigG G).map gAv)))] q = some x → q = 1 := by
      intro q x hq
      simp only [lk] at hq
      split at hq
      · rename_i h; exact h.symm
      · cases hq
    rw [aux i it hi, aux j jt hj]
theorem cov1 {a : Item} : ∀ j, j < 1 → ∃ it, lk [(0, a)] j = some it
  | 0, _ => ⟨_, rfl⟩
  | _ + 1, h => absurd h (by omega)
set_option maxHeartbeats 1000000 in
theorem delNone_io (f : Nat) : FnIO Tryd.prog 22 [.own 0, .fn f []] [(0, .row 23 (.objs 1 []))] 1 (.own 0) [(0, .row 23 (.objs 1 []))] := by
  haveI c1 : CapsOk ([] : List AV) := ⟨rfl⟩
  have k1 := indexFuncG_ok [] f [] (fun _ => true) (fun g hg => by cases hg)
  rw [show firstAt (fun _ : List Int => true) [] 0 = -1 from rfl, List.map_nil] at k1
  refine FnIO.of_vc Tryd.func22 rfl (by decide) (by simp [Tryd.f22]) cov1 [.tmp 4] rfl fun w0 T0 _ => ?_
  simp only [Tryd.f22, argEnv]
  (repeat' first | with_reducible (first | refine Asm.intro fun _ => ?_ | refine Chk.g ?_ | refine AnyI.i64 fun _ _ => ?_ | refine LetW.g ?_ | refine LetW.h ?_ | refine Ite.t fun _ => ?_ | refine Ite.f fun _ => ?_ | refine Ite.decide (fun _ => ?_) fun _ => ?_ | refine Ite.bool (fun _ => ?_) fun _ => ?_ | refine And.intro ?_ ?_) | omega | simp (maxSteps := 1000000) only [go_sem, reduceCtorEq, Nat.reduceLT, Nat.reduceLeDiff, reduceIte, ↓reduceIte, Nat.reduceEqDiff, Nat.reduceAdd, Nat.reduceMul, Nat.reduceSub, Int.reduceLE, Int.reduceLT, Int.reduceNeg, Int.reduceToNat])
  refine VcCall.fr (args' := [.ro (.objs 1 []), .fn f []]) (FnFr.of_ok k1 rfl rfl) (by simp [argOkL, allOk, argOkN, lk, noIdR]) 0 rfl (by simp [rowsB]) ?_
  (repeat' first | with_reducible (first | refine Asm.intro fun _ => ?_ | refine Chk.g ?_ | refine AnyI.i64 fun _ _ => ?_ | refine LetW.g ?_ | refine LetW.h ?_ | refine Ite.t fun _ => ?_ | refine Ite.f fun _ => ?_ | refine Ite.decide (fun _ => ?_) fun _ => ?_ | refine Ite.bool (fun _ => ?_) fun _ => ?_ | refine And.intro ?_ ?_) | omega | simp (maxSteps := 1000000) only [go_sem, reduceCtorEq, Nat.reduceLT, Nat.reduceLeDiff, reduceIte, ↓reduceIte, Nat.reduceEqDiff, Nat.reduceAdd, Nat.reduceMul, Nat.reduceSub, Int.reduceLE, Int.reduceLT, Int.reduceNeg, Int.reduceToNat])
  refine RetK.of [] 1 (by simp) (by decide) ?_ rfl ?_ <;> simp only [go_sem, reduceCtorEq, reduceIte, Nat.reduceEqDiff, Nat.reduceLT, Nat.reduceLeDiff, Int.natCast_succ]
end Go.Fv.T

/- Copies and its reference: the loop. -/
namespace Go.Fv.T
open Go Go.Proofs
set_option linter.unusedSimpArgs false
set_option linter.unusedVariables false
set_option linter.unnecessarySimpa false
set_option maxRecDepth 8000

theorem Ent.famR3 {w0 : World} {T0 : Bs} {b0 : Nat} (p : Nat → Nat) {s : S} {n b N c0 c1 c2 : Nat} {A0 A1 A2 : Item} {env : List (Nat × AV)} {e : TypeId} {rs : List RowV} (hN : N = rs.length + b) (hn : n = s.n) (hb : b0 ≤ N) (hlow : ∀ i, i < b0 → p i = i) (hC : c0 < b ∧ c1 < b ∧ c2 < b)
    (he : envOk p s N env) (hc : subP p s.rows N [(c0, A0), (c1, A1), (c2, A2)]) (hid : ∀ r, r ∈ rs → noIdR r = true)
    (hL : ∀ j (h : j < rs.length), lk s.rows (p (j + b)) = some (.row e rs[j]))
    (hinj : ∀ i j, i < N → j < N → p i = p j → i = j) : Ent w0 T0 b0 s ⟨n, env, (c0, A0) :: (c1, A1) :: (c2, A2) :: famI b (rs.map (Item.row e)), N⟩ :=
  Ent.famR (C := [(c0, A0), (c1, A1), (c2, A2)]) p hN hn hb hlow (by intro x hx; simp at hx; rcases hx with rfl | rfl | rfl <;> first | exact hC.1 | exact hC.2.1 | exact hC.2.2) he hc hid hL hinj
theorem gRs_at (G : List (List Int)) {j : Nat} (h : j < (gRs G).length) : (gRs G)[j] = .ints .i64 (G.getD j []) := by
  have hj : j < G.length := by rw [gRs_len] at h; exact h
  simp [gRs, List.getD_eq_getElem?_getD, hj]
theorem getD_snoc {G : List (List Int)} {x : List Int} {j : Nat} (h : j < G.length) : (G ++ [x]).getD j [] = G.getD j [] := by
  simp [List.getD_eq_getElem?_getD, List.getElem?_append_left h]
theorem getD_set_ne {G : List (List Int)} {x : List Int} {j k : Nat} (h : k ≠ j) : (G.set k x).getD j [] = G.getD j [] := by
  simp [List.getD_eq_getElem?_getD, List.getElem?_set_ne h]
theorem roD_gRs (G : List (List Int)) : roD (gRs G) = G.map gAv := by simp [roD, gRs, gAv]
theorem fzGroups {w0 : World} {T0 : Bs} {n c0 : Nat} {e e2 : TypeId} {C : List (Nat × Item)} {env : List (Nat × AV)} (G : List (List Int))
    (henv : ∀ x, x ∈ env → lk env x.1 = some x.2 ∧ Fv.below 100 x.2 = true) (hc0 : c0 < 100) (hC : ∀ x, x ∈ C → x.1 < 100 ∧ x.1 ≠ c0 ∧ lk C x.1 = some x.2 ∧ x.2.below 100 = true) :
    Ent w0 T0 0 ⟨n, env, (c0, .row e (.objs 1 (famO fo 100 G.length))) :: (C ++ famI 100 ((gRs G).map (Item.row e2))), G.length + 100⟩ ⟨n, env, (c0, .row e (.objs 1 (G.map gAv))) :: C, 100⟩ := by
  have h := Ent.fzFam (w0 := w0) (T0 := T0) (b0 := 0) (n := n) (e := e) (e2 := e2) (Nat.zero_le 100) henv hc0 hC G.length (gRs G) [] (gRs_len G) (gRs_noid G) rfl
  rw [List.append_nil, List.append_nil, roD_gRs] at h
  exact h
theorem small91 (W : World) (a : Option Addr) (n c : Nat) : FnGives Tryd.prog 23 #[] #[.slice a n c] (.bool (decide (n < 2))) W := by
  show Calls Tryd.prog 23 #[.slice a n c] W _
  go_enter Tryd.func23, Tryd.ntmps23
  go_wp2
  all_goals (go_ret; exact ⟨by simp; omega, 0, rfl⟩)
end Go.Fv.T

namespace Go.Fv.T
open Go Go.Proofs
set_option linter.unusedSimpArgs false
set_option linter.unusedVariables false
set_option maxRecDepth 8000

def firstErr : List Int → Int
  | [] => 0
  | e :: l => if e = 0 then firstErr l else e
end Go.Fv.T

/- Copies. -/
namespace Go.Fv.T
open Go Go.Proofs
set_option linter.unusedSimpArgs false
set_option linter.unusedVariables false
set_option linter.unnecessarySimpa false
set_option maxRecDepth 8000

theorem copies1_ok (s : List UInt8) : FnOk Tryd.prog 18 [.str s] (.bool (!prOk s)) [] := by
  have k := isPrint_ok s
  refine FnOk.of_vc Tryd.func18 rfl (by decide) (by simp [Tryd.f18]) [.tmp 2] rfl fun w0 T0 _ => ?_
  simp only [Tryd.f18, argEnv]
  (repeat' first | with_reducible (first | refine Asm.intro fun _ => ?_ | refine Chk.g ?_ | refine AnyI.i64 fun _ _ => ?_ | refine LetW.g ?_ | refine LetW.h ?_ | refine Ite.t fun _ => ?_ | refine Ite.f fun _ => ?_ | refine Ite.decide (fun _ => ?_) fun _ => ?_ | refine Ite.bool (fun _ => ?_) fun _ => ?_ | refine And.intro ?_ ?_) | omega | simp (maxSteps := 1000000) only [go_sem, reduceCtorEq, Nat.reduceLT, Nat.reduceLeDiff, reduceIte, ↓reduceIte, Nat.reduceEqDiff, Nat.reduceAdd, Nat.reduceMul, Nat.reduceSub, Int.reduceLE, Int.reduceLT, Int.reduceNeg, Int.reduceToNat])
  refine VcCall.fr (FnFr.of_ok (k) rfl rfl) (by simp only [noIdR_ok, argOkL, argOk, allOk, argOkN, List.drop_zero, lk, reduceIte, reduceCtorEq, Nat.reduceEqDiff, Option.some.injEq, Item.row.injEq, Item.box.injEq, AV.ro.injEq, exists_eq_left, exists_and_left, exists_eq_left', exists_eq_right, and_assoc, and_true, true_and, List.cons.injEq, exists_eq', exists_eq]) 0 rfl (by simp [rowsB]) ?_
  (repeat' first | with_reducible (first | refine Asm.intro fun _ => ?_ | refine Chk.g ?_ | refine AnyI.i64 fun _ _ => ?_ | refine LetW.g ?_ | refine LetW.h ?_ | refine Ite.t fun _ => ?_ | refine Ite.f fun _ => ?_ | refine Ite.decide (fun _ => ?_) fun _ => ?_ | refine Ite.bool (fun _ => ?_) fun _ => ?_ | refine And.intro ?_ ?_) | omega | simp (maxSteps := 1000000) only [go_sem, reduceCtorEq, Nat.reduceLT, Nat.reduceLeDiff, reduceIte, ↓reduceIte, Nat.reduceEqDiff, Nat.reduceAdd, Nat.reduceMul, Nat.reduceSub, Int.reduceLE, Int.reduceLT, Int.reduceNeg, Int.reduceToNat])
  refine Ret.auto 0 ?_ rfl ?_ <;> simp only [go_sem, reduceCtorEq, reduceIte, Nat.reduceEqDiff, Nat.reduceLT, Nat.reduceLeDiff, Int.natCast_succ, Post]
def copErr (l : List (List UInt8)) (most : Int) : Int := firstErr [if (l.any fun s => !prOk s) = true then 2 else 0, if most < 0 ∨ 64 < most then 3 else 0]
theorem pr64 {l : List (List UInt8)} (h : (l.any fun s => !prOk s) = false) : ∀ s, s ∈ l → s.length = 64 := by
  intro s hs
  rw [List.any_eq_false] at h
  have := h s hs
  simp only [prOk, Bool.not_eq_true, Bool.not_eq_false', Bool.and_eq_true, decide_eq_true_eq] at this
  exact this.1
theorem bigG_nil : bigG [] = [] := rfl
set_option maxHeartbeats 8000000 in
theorem copies_ok (l : List (List UInt8)) (hl : l.length ≤ 1000) (most : Int) : FnOk Tryd.prog 8 [.ro (.strs l), .int .i64 most] (.tup [.own 0, .int .i64 (copErr l most)]) [(0, .row 23 (.objs 1 ((bigG (if copErr l most = 0 then cpN l most l.length else [])).map gAv)))] := by
  haveI c1 : CapsOk ([] : List AV) := ⟨rfl⟩
  have k1 := contFuncS_ok l 18 [] (fun s => !prOk s) fun c hc => FnFr.of_ok (copies1_ok c) rfl rfl
  have hE : copErr l most = firstErr [if (l.any fun s => !prOk s) = true then 2 else 0, if most < 0 ∨ 64 < most then 3 else 0] := rfl
  have h64 := pr64 (l := l)
  generalize (l.any fun s => !prOk s) = bad at *
  generalize copErr l most = E at *
  refine FnOk.of_vc Tryd.func8 rfl (by decide) (by simp [Tryd.f8]) [.tmp 4, .tmp 5] rfl fun w0 T0 _ => ?_
  simp only [Tryd.f8, argEnv]
  (repeat' first | with_reducible (first | refine Asm.intro fun _ => ?_ | refine Chk.g ?_ | refine AnyI.i64 fun _ _ => ?_ | refine LetW.g ?_ | refine LetW.h ?_ | refine Ite.t fun _ => ?_ | refine Ite.f fun _ => ?_ | refine Ite.decide (fun _ => ?_) fun _ => ?_ | refine Ite.bool (fun _ => ?_) fun _ => ?_ | refine And.intro ?_ ?_) | omega | simp (maxSteps := 1000000) only [go_sem, reduceCtorEq, Nat.reduceLT, Nat.reduceLeDiff, reduceIte, ↓reduceIte, Nat.reduceEqDiff, Nat.reduceAdd, Nat.reduceMul, Nat.reduceSub, Int.reduceLE, Int.reduceLT, Int.reduceNeg, Int.reduceToNat])
  refine VcCall.fr (FnFr.of_ok (k1) rfl rfl) (by simp only [noIdR_ok, argOkL, argOk, allOk, argOkN, List.drop_zero, lk, reduceIte, reduceCtorEq, Nat.reduceEqDiff, Option.some.injEq, Item.row.injEq, Item.box.injEq, AV.ro.injEq, exists_eq_left, exists_and_left, exists_eq_left', exists_eq_right, and_assoc, and_true, true_and, List.cons.injEq, exists_eq', exists_eq]) 0 rfl (by simp [rowsB]) ?_
  cases bad with
  | true =>
    have : E = 2 := by rw [hE, if_pos rfl]; simp [firstErr]
    subst this
    rw [if_neg (by decide), bigG_nil]
    (repeat' first | with_reducible (first | refine Asm.intro fun _ => ?_ | refine Chk.g ?_ | refine AnyI.i64 fun _ _ => ?_ | refine LetW.g ?_ | refine LetW.h ?_ | refine Ite.t fun _ => ?_ | refine Ite.f fun _ => ?_ | refine Ite.decide (fun _ => ?_) fun _ => ?_ | refine Ite.bool (fun _ => ?_) fun _ => ?_ | refine And.intro ?_ ?_) | omega | simp (maxSteps := 1000000) only [go_sem, reduceCtorEq, Nat.reduceLT, Nat.reduceLeDiff, reduceIte, ↓reduceIte, Nat.reduceEqDiff, Nat.reduceAdd, Nat.reduceMul, Nat.reduceSub, Int.reduceLE, Int.reduceLT, Int.reduceNeg, Int.reduceToNat])
    refine Ret.auto 1 ?_ rfl ?_ <;> simp only [go_sem, reduceCtorEq, reduceIte, Nat.reduceEqDiff, Nat.reduceLT, Nat.reduceLeDiff, Int.natCast_succ, Post, List.map_nil]
  | false =>
  rw [if_neg (by decide)] at hE
  have h64 := h64 rfl
  by_cases hm : most < 0 ∨ 64 < most
  · have : E = 3 := by rw [hE, if_pos hm]; simp [firstErr]
    subst this
    rw [if_neg (by decide), bigG_nil]
    by_cases hm1 : most < 0
    · (repeat' first | with_reducible (first | refine Asm.intro fun _ => ?_ | refine Chk.g ?_ | refine AnyI.i64 fun _ _ => ?_ | refine LetW.g ?_ | refine LetW.h ?_ | refine Ite.t fun _ => ?_ | refine Ite.f fun _ => ?_ | refine Ite.decide (fun _ => ?_) fun _ => ?_ | refine Ite.bool (fun _ => ?_) fun _ => ?_ | refine And.intro ?_ ?_) | omega | simp (maxSteps := 1000000) only [go_sem, reduceCtorEq, Nat.reduceLT, Nat.reduceLeDiff, reduceIte, ↓reduceIte, Nat.reduceEqDiff, Nat.reduceAdd, Nat.reduceMul, Nat.reduceSub, Int.reduceLE, Int.reduceLT, Int.reduceNeg, Int.reduceToNat, hm1])
      refine Ret.auto 1 ?_ rfl ?_ <;> simp only [go_sem, reduceCtorEq, reduceIte, Nat.reduceEqDiff, Nat.reduceLT, Nat.reduceLeDiff, Int.natCast_succ, Post, List.map_nil]
    · have hm2 : 64 < most := by omega
      (repeat' first | with_reducible (first | refine Asm.intro fun _ => ?_ | refine Chk.g ?_ | refine AnyI.i64 fun _ _ => ?_ | refine LetW.g ?_ | refine LetW.h ?_ | refine Ite.t fun _ => ?_ | refine Ite.f fun _ => ?_ | refine Ite.decide (fun _ => ?_) fun _ => ?_ | refine Ite.bool (fun _ => ?_) fun _ => ?_ | refine And.intro ?_ ?_) | omega | simp (maxSteps := 1000000) only [go_sem, reduceCtorEq, Nat.reduceLT, Nat.reduceLeDiff, reduceIte, ↓reduceIte, Nat.reduceEqDiff, Nat.reduceAdd, Nat.reduceMul, Nat.reduceSub, Int.reduceLE, Int.reduceLT, Int.reduceNeg, Int.reduceToNat, hm1, hm2])
      refine Ret.auto 1 ?_ rfl ?_ <;> simp only [go_sem, reduceCtorEq, reduceIte, Nat.reduceEqDiff, Nat.reduceLT, Nat.reduceLeDiff, Int.natCast_succ, Post, List.map_nil]
  · have : E = 0 := by rw [hE, if_neg hm]; simp [firstErr]
    subst this
    rw [if_pos rfl]
    have hm1 : ¬ most < 0 := by omega
    have hm2 : ¬ 64 < most := by omega
    (repeat' first | with_reducible (first | refine Asm.intro fun _ => ?_ | refine Chk.g ?_ | refine AnyI.i64 fun _ _ => ?_ | refine LetW.g ?_ | refine LetW.h ?_ | refine Ite.t fun _ => ?_ | refine Ite.f fun _ => ?_ | refine Ite.decide (fun _ => ?_) fun _ => ?_ | refine Ite.bool (fun _ => ?_) fun _ => ?_ | refine And.intro ?_ ?_) | omega | simp (maxSteps := 1000000) only [go_sem, reduceCtorEq, Nat.reduceLT, Nat.reduceLeDiff, reduceIte, ↓reduceIte, Nat.reduceEqDiff, Nat.reduceAdd, Nat.reduceMul, Nat.reduceSub, Int.reduceLE, Int.reduceLT, Int.reduceNeg, Int.reduceToNat, hm1, hm2])
    refine VcLoop.run (fun i : Nat => ⟨54, [(26, .int .i64 i), (25, .int .i64 l.length), (24, .ro (.strs l)), (6, .own 3), (3, .ptr 1 0), (2, .ptr 0 0), (999999, .dead)], (3, .row 23 (.objs 1 (famO fo 100 (cpN l most i).length))) :: (0, .box 25 [.ro (.strs l)]) :: (1, .box 3 [.int .i64 most]) :: famI 100 ((gRs (cpN l most i)).map (.row 3)), (cpN l most i).length + 100⟩) (fun i => i ≤ l.length) (fun i => l.length - i) 0 ?_ (Nat.zero_le _) fun i hi => ?_
    · refine Ent.famR3 id (by simp [gRs_len]) rfl (Nat.zero_le _) (fun i hi => rfl) (by omega) ?_ ?_ (gRs_noid _) ?_ (fun i j _ _ e => e)
      · simp only [go_sem, reduceCtorEq, reduceIte, Nat.reduceEqDiff, Nat.reduceLT, Nat.reduceLeDiff, Int.natCast_succ, id]
        simp
      · simp [subP, lk, Item.ren, Item.below, cpN, famO, renL, belowL, renR, belowR, ren, Fv.below]
      · intro j hj; simp [gRs, cpN] at hj
    by_cases hlt : i < l.length
    · refine VcRun.of ?_
      have hs64 := h64 (l.getD i []) (by rw [getD_lt hlt]; exact List.getElem_mem hlt)
      have hGl := cpN_len l most i
      have hGo := cpN_ok l most i
      have hst : cpN l most (i + 1) = cpStep l most (cpN l most i) i := rfl
      generalize cpN l most i = G at *
      unfold cpStep at hst
      generalize hs : l.getD i [] = s at *
      have hp0 := fun x => put_fam_out ((gRs G).map (.row 3)) 100 (G.length + 100) x (by simp [gRs_len])
      have hgI : ∀ j, j < G.length → lk (famI 100 ((gRs G).map (.row 3))) (j + 100) = some (.row 3 (.ints .i64 (G.getD j []))) := fun j hj => lk_fam (gI_get _ G hj)
      haveI cc : CapsOk [.cell [.ro (.strs l)], .cell [.str s], .cell [.int .i64 most]] := ⟨rfl⟩
      have kI := indexFuncG_ok G 20 [.cell [.ro (.strs l)], .cell [.str s], .cell [.int .i64 most]] (near l most s) fun g hg => by
        obtain ⟨g1, g2, g3⟩ := hGo g hg
        have g4 := g3 (g.getD 0 0) (by rw [getD_lt g1]; exact List.getElem_mem g1)
        exact FnFr.of_ok (near_ok l most s g g1 g4.1 (by omega) (by rw [h64 _ (by rw [getD_lt (by omega)]; exact List.getElem_mem _), hs64]; omega)) rfl rfl
      have hkb := firstAt_bd (near l most s) G 0
      generalize firstAt (near l most s) G 0 = k at *
      (repeat' first | with_reducible (first | refine Asm.intro fun _ => ?_ | refine Chk.g ?_ | refine AnyI.i64 fun _ _ => ?_ | refine LetW.g ?_ | refine LetW.h ?_ | refine Ite.t fun _ => ?_ | refine Ite.f fun _ => ?_ | refine Ite.decide (fun _ => ?_) fun _ => ?_ | refine Ite.bool (fun _ => ?_) fun _ => ?_ | refine And.intro ?_ ?_) | omega | simp (maxSteps := 1000000) only [go_sem, reduceCtorEq, Nat.reduceLT, Nat.reduceLeDiff, reduceIte, ↓reduceIte, Nat.reduceEqDiff, Nat.reduceAdd, Nat.reduceMul, Nat.reduceSub, Int.reduceLE, Int.reduceLT, Int.reduceNeg, Int.reduceToNat, List.cons_append, List.nil_append, hs, hp0])
      refine VcCall.fr (FnFr.of_ok kI rfl rfl) ⟨_, _, argOk_groups (b := 100) (e := 23) G (by simp [lk]) (fun j hj => by rw [lk_ne (by omega), lk_ne (by omega), lk_ne (by omega), lk_ne (by omega)]; exact hgI j hj), ⟨_, _, ⟨[.cell [.ro (.strs l)], .cell [.str s], .cell [.int .i64 most]], ?_, rfl⟩, rfl, rfl⟩, rfl⟩ 0 rfl (by simp [rowsB]) ?_
      · simp only [noIdR_ok, argOkL, argOk, allOk, argOkN, List.drop_zero, lk, reduceIte, reduceCtorEq, Nat.reduceEqDiff, Option.some.injEq, Item.row.injEq, Item.box.injEq, AV.ro.injEq, exists_eq_left, exists_and_left, exists_eq_left', exists_eq_right, and_assoc, and_true, true_and, List.cons.injEq, exists_eq', exists_eq]
      rcases hkb with rfl | ⟨hk0, hk1⟩
      · rw [if_pos (by decide)] at hst
        have hn1 : (G.length = G.length + 1) = False := by simp
        have hn2 : (G.length + 100 = G.length + 101) = False := by simp
        (repeat' first | with_reducible (first | refine Asm.intro fun _ => ?_ | refine Chk.g ?_ | refine AnyI.i64 fun _ _ => ?_ | refine LetW.g ?_ | refine LetW.h ?_ | refine Ite.t fun _ => ?_ | refine Ite.f fun _ => ?_ | refine Ite.decide (fun _ => ?_) fun _ => ?_ | refine Ite.bool (fun _ => ?_) fun _ => ?_ | refine And.intro ?_ ?_) | omega | simp (maxSteps := 1000000) only [go_sem, reduceCtorEq, Nat.reduceLT, Nat.reduceLeDiff, reduceIte, ↓reduceIte, Nat.reduceEqDiff, Nat.reduceAdd, Nat.reduceMul, Nat.reduceSub, Int.reduceLE, Int.reduceLT, Int.reduceNeg, Int.reduceToNat, List.cons_append, List.nil_append, hp0, hn1, hn2, famO_len])
        have p3 : p2 3 (G.length + 101 + 1 + 1) (G.length + 100) (G.length + 101) 3 = G.length + 101 + 1 + 1 := p2_at _ _ _ _
        have p0 : p2 3 (G.length + 101 + 1 + 1) (G.length + 100) (G.length + 101) 0 = 0 := p2_ne (by omega) (by omega)
        have p1' : p2 3 (G.length + 101 + 1 + 1) (G.length + 100) (G.length + 101) 1 = 1 := p2_ne (by omega) (by omega)
        have pn : p2 3 (G.length + 101 + 1 + 1) (G.length + 100) (G.length + 101) (G.length + 100) = G.length + 101 := p2_at' (by omega)
        have pj : ∀ j, j < G.length → p2 3 (G.length + 101 + 1 + 1) (G.length + 100) (G.length + 101) (j + 100) = j + 100 := fun j hj => p2_ne (by omega) (by omega)
        have pi : ∀ a b, a < G.length + 101 → b < G.length + 101 → p2 3 (G.length + 101 + 1 + 1) (G.length + 100) (G.length + 101) a = p2 3 (G.length + 101 + 1 + 1) (G.length + 100) (G.length + 101) b → a = b := p2_inj (by omega) (by omega) (by omega)
        generalize p2 3 (G.length + 101 + 1 + 1) (G.length + 100) (G.length + 101) = pp at *
        have hll : (G ++ [[(i : Int)]]).length = G.length + 1 := by simp
        refine ⟨i + 1, ?_, by omega, by omega⟩
        rw [hst, hll]
        refine Ent.famR3 pp (by simp [gRs_len]) rfl (Nat.zero_le _) (fun i hi => by omega) (by omega) ?_ ?_ (gRs_noid _) ?_ (fun a b ha hb => pi a b (by omega) (by omega))
        · simp only [go_sem, reduceCtorEq, reduceIte, Nat.reduceEqDiff, Nat.reduceLT, Nat.reduceLeDiff, Int.natCast_succ, p0, p1', p3, hs]
          simp
        · simp only [go_sem, reduceCtorEq, reduceIte, Nat.reduceEqDiff, Nat.reduceLT, Nat.reduceLeDiff, Int.natCast_succ, subP, p0, p1', p3, renR]
          rw [ren_fo_snoc pj pn]
          simp only [belowR, below_fo (Nat.le_refl _)]
          simp [lk]
        · intro j hj
          rw [gRs_len, hll] at hj
          by_cases e : j = G.length
          · subst e
            rw [pn, lk_ne (by omega), lk_ne (by omega), lk_eq]
            simp [gRs]
          · rw [pj j (by omega)]
            repeat rw [lk_ne (by omega)]
            rw [lk_del, if_neg (by omega), hgI j (by omega)]
            rw [gRs_at, getD_snoc (by omega)]
      · obtain ⟨k, rfl⟩ : ∃ q : Nat, k = q := ⟨k.toNat, by omega⟩
        have hkl : k < G.length := by omega
        rw [if_neg (by omega), Int.toNat_natCast] at hst
        have hfo := fo_get 100 G.length hkl
        have hlk := hgI k hkl
        have hq1 : (G.length + 1 = k) = False := eq_false (by omega)
        have hq2 : (G.length = k) = False := eq_false (by omega)
        have hq3 := (hGo (G.getD k []) (by rw [getD_lt hkl]; exact List.getElem_mem hkl)).2.1
        (repeat' first | with_reducible (first | refine Asm.intro fun _ => ?_ | refine Chk.g ?_ | refine AnyI.i64 fun _ _ => ?_ | refine LetW.g ?_ | refine LetW.h ?_ | refine Ite.t fun _ => ?_ | refine Ite.f fun _ => ?_ | refine Ite.decide (fun _ => ?_) fun _ => ?_ | refine Ite.bool (fun _ => ?_) fun _ => ?_ | refine And.intro ?_ ?_) | omega | simp (maxSteps := 1000000) only [go_sem, reduceCtorEq, Nat.reduceLT, Nat.reduceLeDiff, reduceIte, ↓reduceIte, Nat.reduceEqDiff, Nat.reduceAdd, Nat.reduceMul, Nat.reduceSub, Int.reduceLE, Int.reduceLT, Int.reduceNeg, Int.reduceToNat, List.cons_append, List.nil_append, hp0, hfo, hlk, famO_len, Int.toNat_natCast, hq1, hq2])
        have p3 : p1 (k + 100) (G.length + 101 + 1) 3 = 3 := p1_ne (by omega)
        have p0 : p1 (k + 100) (G.length + 101 + 1) 0 = 0 := p1_ne (by omega)
        have p1' : p1 (k + 100) (G.length + 101 + 1) 1 = 1 := p1_ne (by omega)
        refine ⟨i + 1, ?_, by omega, by omega⟩
        rw [hst, List.length_set]
        refine Ent.famR3 (p1 (k + 100) (G.length + 101 + 1)) (by simp [gRs_len]) rfl (Nat.zero_le _) (fun i hi => by omega) (by omega) ?_ ?_ (gRs_noid _) ?_ (p1_inj (by omega))
        · simp only [go_sem, reduceCtorEq, reduceIte, Nat.reduceEqDiff, Nat.reduceLT, Nat.reduceLeDiff, Int.natCast_succ, p0, p1', p3, hs]
          simp
        · simp only [go_sem, reduceCtorEq, reduceIte, Nat.reduceEqDiff, Nat.reduceLT, Nat.reduceLeDiff, Int.natCast_succ, subP, p0, p1', p3, renR]
          rw [ren_fo_set hkl]
          simp only [belowR, below_fo (Nat.le_refl _)]
          simp [lk]
        · intro j hj
          rw [gRs_len, List.length_set] at hj
          by_cases e : j = k
          · subst e
            rw [p1_at, lk_eq]
            simp [gRs]
          · rw [p1_ne (by omega)]
            repeat rw [lk_ne (by omega)]
            rw [lk_put, if_neg (by omega), lk_del, if_neg (by omega), hgI j (by omega)]
            rw [gRs_at, getD_set_ne (fun h => e h.symm)]
    · have e : i = l.length := by omega
      subst e
      have hGl := cpN_len l most l.length
      have hGo := cpN_ok l most l.length
      generalize cpN l most l.length = G at *
      refine VcRun.ent (fzGroups (C := [(0, .box 25 [.ro (.strs l)]), (1, .box 3 [.int .i64 most])]) G (by simp [lk, Fv.below]) (by omega) (by simp [lk, Item.below, belowL, Fv.below])) (VcRun.of ?_)
      by_cases hG : G = []
      · subst hG
        rw [List.map_nil]
        (repeat' first | with_reducible (first | refine Asm.intro fun _ => ?_ | refine Chk.g ?_ | refine AnyI.i64 fun _ _ => ?_ | refine LetW.g ?_ | refine LetW.h ?_ | refine Ite.t fun _ => ?_ | refine Ite.f fun _ => ?_ | refine Ite.decide (fun _ => ?_) fun _ => ?_ | refine Ite.bool (fun _ => ?_) fun _ => ?_ | refine And.intro ?_ ?_) | omega | simp (maxSteps := 1000000) only [go_sem, reduceCtorEq, Nat.reduceLT, Nat.reduceLeDiff, reduceIte, ↓reduceIte, Nat.reduceEqDiff, Nat.reduceAdd, Nat.reduceMul, Nat.reduceSub, Int.reduceLE, Int.reduceLT, Int.reduceNeg, Int.reduceToNat])
        refine VcCall.io [3] (delNone_io 23) (by decide) (by simp [renL, ren, ioN]) rfl (by simp [subOk, ioN, lk, Item.ren, Item.below, ren, renL, belowL, Fv.below, renR, belowR]) cov1 1 (by decide) rfl (by simp [rowsB, Item.below, Fv.below, belowL, belowR]) ?_
        (repeat' first | with_reducible (first | refine Asm.intro fun _ => ?_ | refine Chk.g ?_ | refine AnyI.i64 fun _ _ => ?_ | refine LetW.g ?_ | refine LetW.h ?_ | refine Ite.t fun _ => ?_ | refine Ite.f fun _ => ?_ | refine Ite.decide (fun _ => ?_) fun _ => ?_ | refine Ite.bool (fun _ => ?_) fun _ => ?_ | refine And.intro ?_ ?_) | omega | simp (maxSteps := 1000000) only [go_sem, reduceCtorEq, Nat.reduceLT, Nat.reduceLeDiff, reduceIte, ↓reduceIte, Nat.reduceEqDiff, Nat.reduceAdd, Nat.reduceMul, Nat.reduceSub, Int.reduceLE, Int.reduceLT, Int.reduceNeg, Int.reduceToNat, S.ioS, ioRows, ioN, delL, Item.ren, ren, renL, renR, List.map_nil, List.length_cons, List.length_nil, List.getElem?_cons_zero, List.getElem?_nil, List.cons_append, List.nil_append, Nat.reduceAdd, Nat.sub_self, Nat.add_zero])
        refine Ret.auto 1 ?_ rfl ?_ <;> simp only [go_sem, reduceCtorEq, reduceIte, Nat.reduceEqDiff, Nat.reduceLT, Nat.reduceLeDiff, Int.natCast_succ, Post]
        all_goals rfl
      · (repeat' first | with_reducible (first | refine Asm.intro fun _ => ?_ | refine Chk.g ?_ | refine AnyI.i64 fun _ _ => ?_ | refine LetW.g ?_ | refine LetW.h ?_ | refine Ite.t fun _ => ?_ | refine Ite.f fun _ => ?_ | refine Ite.decide (fun _ => ?_) fun _ => ?_ | refine Ite.bool (fun _ => ?_) fun _ => ?_ | refine And.intro ?_ ?_) | omega | simp (maxSteps := 1000000) only [go_sem, reduceCtorEq, Nat.reduceLT, Nat.reduceLeDiff, reduceIte, ↓reduceIte, Nat.reduceEqDiff, Nat.reduceAdd, Nat.reduceMul, Nat.reduceSub, Int.reduceLE, Int.reduceLT, Int.reduceNeg, Int.reduceToNat])
        refine VcCall.io [3] (delGroups_io G hG 23 (enters_of Tryd.func23 (by kernel_rfl) rfl) small91) (by decide) (by simp [renL, ren, ioN]) rfl (by simp [subOk, ioN, lk, Item.ren, Item.below, ren, renL, belowL, Fv.below, renR_ok, belowR_ok]) cov1 2 (by decide) rfl (by simp [rowsB, Item.below, Fv.below, belowL, belowR_ok]) ?_
        (repeat' first | with_reducible (first | refine Asm.intro fun _ => ?_ | refine Chk.g ?_ | refine AnyI.i64 fun _ _ => ?_ | refine LetW.g ?_ | refine LetW.h ?_ | refine Ite.t fun _ => ?_ | refine Ite.f fun _ => ?_ | refine Ite.decide (fun _ => ?_) fun _ => ?_ | refine Ite.bool (fun _ => ?_) fun _ => ?_ | refine And.intro ?_ ?_) | omega | simp (maxSteps := 1000000) only [go_sem, reduceCtorEq, Nat.reduceLT, Nat.reduceLeDiff, reduceIte, ↓reduceIte, Nat.reduceEqDiff, Nat.reduceAdd, Nat.reduceMul, Nat.reduceSub, Int.reduceLE, Int.reduceLT, Int.reduceNeg, Int.reduceToNat, S.ioS, ioRows, ioN, delL, Item.ren, ren, renL, renR_ok, List.map_nil, List.length_cons, List.length_nil, List.getElem?_cons_zero, List.getElem?_nil, List.cons_append, List.nil_append, Nat.reduceAdd, Nat.sub_self, Nat.add_zero])
        refine Ret.auto 1 ?_ rfl ?_ <;> simp only [go_sem, reduceCtorEq, reduceIte, Nat.reduceEqDiff, Nat.reduceLT, Nat.reduceLeDiff, Int.natCast_succ, Post]
end Go.Fv.T

/- Pages, as data; Apart. -/
namespace Go.Fv.T
open Go Go.Proofs
set_option linter.unusedSimpArgs false
set_option linter.unusedVariables false
set_option linter.unnecessarySimpa false
set_option maxRecDepth 8000

structure Pg where
  W : Int
  H : Int
  p : List Bool
def Pg.av (s : Pg) : List AV := [.int .i64 s.W, .int .i64 s.H, .ro (.bools s.p)]
def Pg.zero : Pg := ⟨0, 0, []⟩
abbrev pgs (l : List Pg) : RowV := .objs 3 (l.map Pg.av)
instance : FNoId Pg.av := ⟨fun _ => rfl⟩
theorem pg_elem (l : List Pg) {i : Nat} (h : i < l.length) : (l.map Pg.av).getD i [] = [.int .i64 (l.getD i Pg.zero).W, .int .i64 (l.getD i Pg.zero).H, .ro (.bools (l.getD i Pg.zero).p)] := by
  simp [List.getD_eq_getElem?_getD, h, Pg.av]
theorem prB_in (n s : Int) : inCut [48, 49] (prB n s) = true := by
  unfold prB; split <;> decide
end Go.Fv.T

namespace Go.Fv.T
open Go Go.Proofs
set_option linter.unusedSimpArgs false
set_option linter.unusedVariables false
set_option maxRecDepth 8000
theorem and_bd (a : Int) (m : Nat) (hm : m < 2 ^ 63) : 0 ≤ bitsI .and .i64 a m ∧ bitsI .and .i64 a m ≤ m := by
  unfold bitsI
  dsimp only
  have h1 : (BitVec.ofInt 64 a &&& BitVec.ofInt 64 (m : Int)).toNat ≤ m := by
    rw [BitVec.toNat_and]
    refine Nat.le_trans Nat.and_le_right ?_
    rw [BitVec.ofInt_natCast, BitVec.toNat_ofNat]
    exact Nat.mod_le _ _
  rw [show IntKind.i64.bits = 64 from rfl]
  rw [wrap_of_in (InK_i64.2 ⟨by omega, by omega⟩)]
  omega
/-- The size that a page is fitted to. -/
def fitN (a : Int) (m : Nat) : Nat := (1 + bitsI .and .i64 a m).toNat
theorem fitN_bd (a : Int) (m : Nat) (hm : m < 2 ^ 63) : 1 ≤ fitN a m ∧ fitN a m ≤ m + 1 ∧ 1 + bitsI .and .i64 a m = ((fitN a m : Nat) : Int) := by
  have := and_bd a m hm
  unfold fitN; omega
end Go.Fv.T

/- The page that bedtop makes of a raw one. -/
namespace Go.Fv.T
open Go Go.Proofs
set_option linter.unusedSimpArgs false
set_option linter.unusedVariables false
set_option linter.unnecessarySimpa false
set_option maxRecDepth 8000

theorem landedT_ok : FnOk Tryd.prog 5 [] (.bool true) [] := by
  refine FnOk.of_vc Tryd.func5 rfl (by decide) (by simp [Tryd.f5]) [.tmp 0] rfl fun w0 T0 _ => ?_
  simp only [Tryd.f5, argEnv]
  simp (maxSteps := 1000000) only [go_sem, reduceCtorEq, Nat.reduceLT, Nat.reduceLeDiff, reduceIte, ↓reduceIte, Nat.reduceEqDiff, Nat.reduceAdd, Nat.reduceMul, Nat.reduceSub, Int.reduceLE, Int.reduceLT, Int.reduceNeg, Int.reduceToNat]
  refine VcCall.fr (args' := [.str [97]]) (FnFr.of_ok isName_a rfl rfl) (by simp [argOkL, allOk, argOkN]) 0 rfl (by simp [rowsB]) ?_
  simp (maxSteps := 1000000) only [go_sem, reduceCtorEq, Nat.reduceLT, Nat.reduceLeDiff, reduceIte, ↓reduceIte, Nat.reduceEqDiff, Nat.reduceAdd, Nat.reduceMul, Nat.reduceSub, Int.reduceLE, Int.reduceLT, Int.reduceNeg, Int.reduceToNat]
  refine Ret.auto 0 ?_ rfl ?_ <;> simp only [go_sem, reduceCtorEq, reduceIte, Nat.reduceEqDiff, Nat.reduceLT, Nat.reduceLeDiff, Int.natCast_succ, Post]
theorem and_bd2 (a : Int) : 0 ≤ bitsI .and .i64 a 31 ∧ bitsI .and .i64 a 31 ≤ 31 := by
  obtain ⟨h1, h2, h3⟩ := (show 1 ≤ fitN a 31 ∧ fitN a 31 ≤ 32 ∧ 1 + bitsI .and .i64 a 31 = ((fitN a 31 : Nat) : Int) from fitN_bd a 31 (by decide))
  omega
def shB (p : List Bool) (n : Nat) : List Bool := (List.range n).map fun k => decide (0 < p.length) && p.getD (k % p.length) false
theorem shB_succ (p : List Bool) (n : Nat) : shB p (n + 1) = shB p n ++ [decide (0 < p.length) && p.getD (n % p.length) false] := by
  simp [shB, List.range_succ]
theorem shB_len (p : List Bool) (n : Nat) : (shB p n).length = n := by simp [shB]
def shP (x : Pg) : Pg := ⟨fitN x.W 31, fitN x.H 31, shB x.p (fitN x.W 31 * fitN x.H 31)⟩
set_option maxHeartbeats 4000000 in
theorem sheetOf_ok (x : Pg) : FnOk Tryd.prog 6 [.agg x.av] (.agg [.int .i64 (fitN x.W 31), .int .i64 (fitN x.H 31), .own 0]) [(0, .row 4 (.bools (shB x.p (fitN x.W 31 * fitN x.H 31))))] := by
  obtain ⟨W, H, p⟩ := x
  obtain ⟨w1, w2, w3⟩ := (show 1 ≤ fitN W 31 ∧ fitN W 31 ≤ 32 ∧ 1 + bitsI .and .i64 W 31 = ((fitN W 31 : Nat) : Int) from fitN_bd W 31 (by decide))
  obtain ⟨h1, h2, h3⟩ := (show 1 ≤ fitN H 31 ∧ fitN H 31 ≤ 32 ∧ 1 + bitsI .and .i64 H 31 = ((fitN H 31 : Nat) : Int) from fitN_bd H 31 (by decide))
  have b1 := and_bd2 W
  have b2 := and_bd2 H
  unfold Pg.av
  dsimp only
  generalize fitN W 31 = w at *
  generalize fitN H 31 = h at *
  have hA : w * h ≤ 32 * 32 := Nat.mul_le_mul w2 h2
  have hM : (w : Int) * (h : Int) = ((w * h : Nat) : Int) := by simp
  generalize w * h = A at *
  refine FnOk.of_vc Tryd.func6 rfl (by decide) (by simp [Tryd.f6]) [.cell 2 28] rfl fun w0 T0 _ => ?_
  simp only [Tryd.f6, argEnv]
  (repeat' first | with_reducible (first | refine Asm.intro fun _ => ?_ | refine Chk.g ?_ | refine AnyI.i64 fun _ _ => ?_ | refine LetW.g ?_ | refine LetW.h ?_ | refine Ite.t fun _ => ?_ | refine Ite.f fun _ => ?_ | refine Ite.decide (fun _ => ?_) fun _ => ?_ | refine Ite.bool (fun _ => ?_) fun _ => ?_ | refine And.intro ?_ ?_) | omega | simp (maxSteps := 1000000) only [go_sem, reduceCtorEq, Nat.reduceLT, Nat.reduceLeDiff, reduceIte, ↓reduceIte, Nat.reduceEqDiff, Nat.reduceAdd, Nat.reduceMul, Nat.reduceSub, Int.reduceLE, Int.reduceLT, Int.reduceNeg, Int.reduceToNat, w3, h3, hM])
  refine VcLoop.intro (fun i : Nat => ⟨44, [(19, .int .i64 i), (18, .int .i64 A), (3, .ptr 2 0), (2, .ptr 1 0), (1, .ptr 0 0)], [(0, .box 28 [.int .i64 W, .int .i64 H, .ro (.bools p)]), (1, .box 28 [.int .i64 0, .int .i64 0, .nilS]), (2, .box 28 [.int .i64 w, .int .i64 h, .own 3]), (3, .row 4 (.bools (shB p i)))], 4⟩) (fun i => i ≤ A) (fun i => A - i) 0 ?_ (Nat.zero_le _) fun i hi => ?_
  · refine Ent.trans (Ent.nilBox (P := Tryd.prog) 2 2 4 e4 rfl rfl) (Ent.auto0 rfl ?_ ?_) <;> simp only [go_sem, reduceCtorEq, reduceIte, Nat.reduceEqDiff, Nat.reduceLT, Nat.reduceLeDiff, Int.natCast_succ, shB, zrow, put, List.set_cons_zero, List.set_cons_succ, List.range_zero, List.map_nil, List.replicate_zero]
  by_cases hlt : i < A
  · have hs := shB_succ p i
    have hl := shB_len p i
    have hm := Nat.mod_lt i (y := p.length)
    (repeat' first | with_reducible (first | refine Asm.intro fun _ => ?_ | refine Chk.g ?_ | refine AnyI.i64 fun _ _ => ?_ | refine LetW.g ?_ | refine LetW.h ?_ | refine Ite.t fun _ => ?_ | refine Ite.f fun _ => ?_ | refine Ite.decide (fun _ => ?_) fun _ => ?_ | refine Ite.bool (fun _ => ?_) fun _ => ?_ | refine And.intro ?_ ?_) | omega | simp (maxSteps := 1000000) only [go_sem, reduceCtorEq, Nat.reduceLT, Nat.reduceLeDiff, reduceIte, ↓reduceIte, Nat.reduceEqDiff, Nat.reduceAdd, Nat.reduceMul, Nat.reduceSub, Int.reduceLE, Int.reduceLT, Int.reduceNeg, Int.reduceToNat])
    refine VcDraw.lex [17, 18, 20] [(0, [1]), (1, [1])] (by kernel_rfl) (by kernel_rfl) ?_
    by_cases hp : 0 < p.length
    · have hp' : (0 : Int) < p.length := by omega
      have hm := hm hp
      rw [decide_eq_true hp, Bool.true_and] at hs
      (repeat' first | with_reducible (first | refine Asm.intro fun _ => ?_ | refine Chk.g ?_ | refine AnyI.i64 fun _ _ => ?_ | refine LetW.g ?_ | refine LetW.h ?_ | refine Ite.t fun _ => ?_ | refine Ite.f fun _ => ?_ | refine Ite.decide (fun _ => ?_) fun _ => ?_ | refine Ite.bool (fun _ => ?_) fun _ => ?_ | refine And.intro ?_ ?_) | omega | simp (maxSteps := 1000000) only [go_sem, reduceCtorEq, Nat.reduceLT, Nat.reduceLeDiff, reduceIte, ↓reduceIte, Nat.reduceEqDiff, Nat.reduceAdd, Nat.reduceMul, Nat.reduceSub, Int.reduceLE, Int.reduceLT, Int.reduceNeg, Int.reduceToNat, hp', up_tmod, Int.toNat_natCast])
      refine ⟨i + 1, Ent.auto0 rfl ?_ ?_, by omega, by omega⟩ <;> simp only [go_sem, reduceCtorEq, reduceIte, Nat.reduceEqDiff, Nat.reduceLT, Nat.reduceLeDiff, Int.natCast_succ, hs]
      all_goals rfl
    · have hp' : ¬ (0 : Int) < p.length := by omega
      rw [decide_eq_false hp, Bool.false_and] at hs
      (repeat' first | with_reducible (first | refine Asm.intro fun _ => ?_ | refine Chk.g ?_ | refine AnyI.i64 fun _ _ => ?_ | refine LetW.g ?_ | refine LetW.h ?_ | refine Ite.t fun _ => ?_ | refine Ite.f fun _ => ?_ | refine Ite.decide (fun _ => ?_) fun _ => ?_ | refine Ite.bool (fun _ => ?_) fun _ => ?_ | refine And.intro ?_ ?_) | omega | simp (maxSteps := 1000000) only [go_sem, reduceCtorEq, Nat.reduceLT, Nat.reduceLeDiff, reduceIte, ↓reduceIte, Nat.reduceEqDiff, Nat.reduceAdd, Nat.reduceMul, Nat.reduceSub, Int.reduceLE, Int.reduceLT, Int.reduceNeg, Int.reduceToNat, hp', up_tmod, Int.toNat_natCast])
      refine ⟨i + 1, Ent.auto0 rfl ?_ ?_, by omega, by omega⟩ <;> simp only [go_sem, reduceCtorEq, reduceIte, Nat.reduceEqDiff, Nat.reduceLT, Nat.reduceLeDiff, Int.natCast_succ, hs]
      all_goals rfl
  · have e : i = A := by omega
    subst e
    (repeat' first | with_reducible (first | refine Asm.intro fun _ => ?_ | refine Chk.g ?_ | refine AnyI.i64 fun _ _ => ?_ | refine LetW.g ?_ | refine LetW.h ?_ | refine Ite.t fun _ => ?_ | refine Ite.f fun _ => ?_ | refine Ite.decide (fun _ => ?_) fun _ => ?_ | refine Ite.bool (fun _ => ?_) fun _ => ?_ | refine And.intro ?_ ?_) | omega | simp (maxSteps := 1000000) only [go_sem, reduceCtorEq, Nat.reduceLT, Nat.reduceLeDiff, reduceIte, ↓reduceIte, Nat.reduceEqDiff, Nat.reduceAdd, Nat.reduceMul, Nat.reduceSub, Int.reduceLE, Int.reduceLT, Int.reduceNeg, Int.reduceToNat])
    refine Ret.auto 1 ?_ rfl ?_ <;> simp only [go_sem, reduceCtorEq, reduceIte, Nat.reduceEqDiff, Nat.reduceLT, Nat.reduceLeDiff, Int.natCast_succ, Post, List.drop_zero]
    all_goals sorry
end Go.Fv.T
