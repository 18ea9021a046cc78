/-
  A part of the proof of the claim: walks over the program's functions and the plain laws that these need. No condition of its own.
-/
import Derived.Test.YtgjeejogiohefaaGreatDoorUTopAllInkCardPart9
import Derived.Test.YtgjeejogiohefaaGreatDoorUTopAllInkCardPart4
import Derived.Test.YtgjeejogiohefaaGreatDoorUTopAllInkCardPart5
/- The law TopAllInk. -/
namespace Go.Fv.U
open Go Go.Proofs
set_option linter.unusedSimpArgs false
set_option linter.unusedVariables false
set_option linter.unnecessarySimpa false
set_option maxRecDepth 8000

theorem topInk1_ok (w h : Nat) (hw1 : 1 ≤ w) (hw : w ≤ 32) (hh1 : 1 ≤ h) (hh : h ≤ 32) (c : List Bool) (hc : c.length = w * h) (b : Nb) (hp : PartOf b ⟨0, 0, w, h⟩) (hi : 0 < inkB c w b) :
    FnOk Tryz.prog 22 [.agg [.int .i64 b.x, .int .i64 b.y, .int .i64 b.w, .int .i64 b.h], .cell [.int .i64 w, .int .i64 h, .ro (.bools c)]] (.int .i64 (inkB c w b : Nat)) [] := by
  have h2 := ink_w c w hi
  have h3 := ink_h c w hi
  have hwh : w * h ≤ 32 * 32 := Nat.mul_le_mul hw hh
  unfold PartOf at hp
  dsimp only at hp
  have k := ink_ok w h b.x b.y b.w b.h hw1 (by omega) hh1 (by omega) (by omega) c hc (by omega) (by omega) (by omega) (by omega)
  rw [show inkN c w b.x b.y b.w b.h = inkB c w b from rfl] at k
  generalize inkB c w b = n at *
  obtain ⟨x, y, W, H⟩ := b
  dsimp only at *
  refine FnOk.of_vc Tryz.func22 rfl (by decide) (by simp [Tryz.f22]) [.tmp 3] rfl fun w0 T0 _ => ?_
  simp only [Tryz.f22, argEnv]
  (repeat' first | with_reducible (first | intro _ | refine rc ?_ | refine rl ?_ | refine rh ?_ | refine rt ?_ | refine rf ?_ | refine rs ?_ | refine And.intro ?_ ?_) | omega | simp (maxSteps := 1000000) only [go_sem, simprocAttr, ↓reduceIte])
  refine VcCall.k (k) ?_
  (repeat' first | with_reducible (first | intro _ | refine rc ?_ | refine rl ?_ | refine rh ?_ | refine rt ?_ | refine rf ?_ | refine rs ?_ | refine And.intro ?_ ?_) | omega | simp (maxSteps := 1000000) only [go_sem, simprocAttr, ↓reduceIte])
  refine Ret.auto 0 ?_ rfl ?_ <;> simp only [go_sem, reduceCtorEq, reduceIte, Nat.reduceEqDiff, Nat.reduceLT, Nat.reduceLeDiff, Int.natCast_succ, Post]
set_option maxHeartbeats 16000000 in
theorem topGood (W H : Int) (p : List Bool) (w h : Nat) (q : List Bool) (k1 : FnOk Tryz.prog 17 [.agg [.int .i64 W, .int .i64 H, .ro (.bools p)]] (.agg [.int .i64 w, .int .i64 h, .own 0]) [(0, .row 4 (.bools q))]) (w1 : 1 ≤ w) (w2 : w ≤ 32) (h1 : 1 ≤ h) (h2 : h ≤ 32) (hq : q.length = w * h) (least gx gy line word : Nat) (hw : WaysIn least gx gy line word) (turn : Int) : FnOk Tryz.prog 4 [.agg [.int .i64 W, .int .i64 H, .ro (.bools p)], .agg [.int .i64 least, .int .i64 gx, .int .i64 gy, .int .i64 line, .int .i64 word], .int .i64 turn] (.bool true) [] := by
  unfold WaysIn at hw
  have kL := layout_ok w h w1 w2 h1 h2 q hq least gx gy line word (by omega) (by omega) (by omega) (by omega) (by omega) (by omega) (by omega) (by omega) (by omega)
  have kS := specks_ok w h w1 (by omega) h1 (by omega) q hq ((least : Int) - 1) (by omega)
  rw [show (chgAll (!true) (speckB ((least : Int) - 1)) q (pieces ⟨q, w, h, true, true⟩)).p = spk w h q least from rfl] at kS
  have hcl := (spk_len w h q least).trans hq
  have hpl := pieces_least w h q hq least
  generalize (chgAll (!true) (speckB ((least : Int) - 1)) q (pieces ⟨q, w, h, true, true⟩)).n = ns at *
  generalize spk w h q least = c at *
  have hlay := layOk c w h gx gy line word
  have kP := pieces_fn w h w1 (by omega) h1 (by omega) c hcl
  have hps := pieces_ink w h c hcl
  generalize (pieces ⟨c, w, h, true, true⟩).map (pcOf w h) = P at *
  have hPn : ∀ x, x ∈ P → 0 ≤ x.n := fun x hx => by have := hpl x hx; omega
  have hPl : P.length ≤ 5000 := by
    have : ∀ l : List Pc, (∀ x, x ∈ l → (least : Int) ≤ x.n) → (l.length : Int) ≤ cntL l := fun l => by
      induction l with
      | nil => intro _; exact Int.le_refl _
      | cons x l ih =>
        intro hl
        have e : cntL (x :: l) = x.n + cntL l := by simp [cntL]
        have := hl x List.mem_cons_self
        have := ih fun d hd => hl d (List.mem_cons_of_mem _ hd)
        rw [List.length_cons]
        omega
    have := this P hpl
    have hi := inkN_le c w 0 0 w h
    have hwh : h * w ≤ 32 * 32 := Nat.mul_le_mul h2 w2
    omega
  generalize layL c w h gx gy line word = B at *
  obtain ⟨hcb, hcln, hcf⟩ := hlay
  have hi := inkN_le c w 0 0 w h
  have hwh : h * w ≤ 32 * 32 := Nat.mul_le_mul h2 w2
  have hsb := cuts_sum hcb
  have hsl := cuts_sum hcln
  have hsf := cuts_sum hcf
  have hbl := hcb.len
  have hfl := hcf.len
  rw [show inkB c w ⟨0, 0, w, h⟩ = inkN c w 0 0 w h from rfl] at hbl hfl
  rw [List.length_map] at hbl
  have kF := flat_ok B (by omega)
  have kI := ink_ok w h 0 0 w h w1 (by omega) h1 (by omega) (by rw [Nat.mul_comm]; omega) c hcl w1 h1 (by omega) (by omega)
  simp only [Int.natCast_zero, Int.cast_ofNat_Int] at kI
  have hbx := bxN_ok w2 h2 hcf
  have hbe := fun k (hk : k < B.length) => bk_elem B hk
  have kb := fun x (hx : x ∈ B.map Bk.b) => topInk1_ok w h w1 w2 h1 h2 c hcl x (hcb.part x hx) (hcb.ink x hx)
  have kl := fun x (hx : x ∈ linesB B) => topInk1_ok w h w1 w2 h1 h2 c hcl x (hcln.part x hx) (hcln.ink x hx)
  have kf := fun x (hx : x ∈ flatB B) => topInk1_ok w h w1 w2 h1 h2 c hcl x (hcf.part x hx) (hcf.ink x hx)
  generalize hN : inkN c w 0 0 w h = N at *
  refine FnOk.of_vc Tryz.func4 rfl (by decide) (by simp [Tryz.f4]) [.tmp 6] rfl fun w0 T0 _ => ?_
  simp only [Tryz.f4, argEnv]
  (repeat' first | with_reducible (first | intro _ | refine rc ?_ | refine rl ?_ | refine rh ?_ | refine rt ?_ | refine rf ?_ | refine rs ?_ | refine And.intro ?_ ?_) | omega | simp (maxSteps := 1000000) only [go_sem, simprocAttr, ↓reduceIte])
  refine VcCall.k (landedT_ok) ?_
  (repeat' first | with_reducible (first | intro _ | refine rc ?_ | refine rl ?_ | refine rh ?_ | refine rt ?_ | refine rf ?_ | refine rs ?_ | refine And.intro ?_ ?_) | omega | simp (maxSteps := 1000000) only [go_sem, simprocAttr, ↓reduceIte])
  refine VcCall.ro (.agg [.int .i64 w, .int .i64 h, .ro (.bools q)]) (FnFr.of_ok k1 rfl rfl) (by simp only [noIdR_ok, argOkL, argOk, allOk, argOkN, List.drop_zero, lk, reduceIte, reduceCtorEq, Nat.reduceEqDiff, Option.some.injEq, Item.row.injEq, Item.box.injEq, AV.ro.injEq, exists_eq_left, exists_and_left, exists_eq_left', exists_eq_right, and_assoc, and_true, true_and, List.cons.injEq, exists_eq', exists_eq]) (by simp [outOk, argOk, allOk, argOkN, lk]) rfl ?_
  (repeat' first | with_reducible (first | intro _ | refine rc ?_ | refine rl ?_ | refine rh ?_ | refine rt ?_ | refine rf ?_ | refine rs ?_ | refine And.intro ?_ ?_) | omega | simp (maxSteps := 1000000) only [go_sem, simprocAttr, ↓reduceIte])
  refine VcCall.ros (.tup [.ro (bks B), .int .i64 0]) kL (by simp only [noIdR_ok, argOkL, argOk, allOk, argOkN, List.drop_zero, lk, reduceIte, reduceCtorEq, Nat.reduceEqDiff, Option.some.injEq, Item.row.injEq, Item.box.injEq, AV.ro.injEq, exists_eq_left, exists_and_left, exists_eq_left', exists_eq_right, and_assoc, and_true, true_and, List.cons.injEq, exists_eq', exists_eq]) (by simp [outOk, argOkL, allOk, argOk, argOkN, lk, noIdR_ok]) rfl ?_
  (repeat' first | with_reducible (first | intro _ | refine rc ?_ | refine rl ?_ | refine rh ?_ | refine rt ?_ | refine rf ?_ | refine rs ?_ | refine And.intro ?_ ?_) | omega | simp (maxSteps := 1000000) only [go_sem, simprocAttr, ↓reduceIte])
  refine VcCall.ro (.tup [.agg [.int .i64 w, .int .i64 h, .ro (.bools c)], .int .i64 ns, .int .i64 0]) (FnFr.of_ok kS rfl rfl) (by simp only [noIdR_ok, argOkL, argOk, allOk, argOkN, List.drop_zero, lk, reduceIte, reduceCtorEq, Nat.reduceEqDiff, Option.some.injEq, Item.row.injEq, Item.box.injEq, AV.ro.injEq, exists_eq_left, exists_and_left, exists_eq_left', exists_eq_right, and_assoc, and_true, true_and, List.cons.injEq, exists_eq', exists_eq]) (by simp [outOk, argOkL, allOk, argOk, argOkN, lk, noIdR_ok]) rfl ?_
  (repeat' first | with_reducible (first | intro _ | refine rc ?_ | refine rl ?_ | refine rh ?_ | refine rt ?_ | refine rf ?_ | refine rs ?_ | refine And.intro ?_ ?_) | omega | simp (maxSteps := 1000000) only [go_sem, simprocAttr, ↓reduceIte])
  refine VcCall.k (kI) ?_
  (repeat' first | with_reducible (first | intro _ | refine rc ?_ | refine rl ?_ | refine rh ?_ | refine rt ?_ | refine rf ?_ | refine rs ?_ | refine And.intro ?_ ?_) | omega | simp (maxSteps := 1000000) only [go_sem, simprocAttr, ↓reduceIte])
  refine VcCall.ro (.tup [.ro (pcR P), .int .i64 0]) (FnFr.of_ok kP rfl (by simp [noRoRows, noRoItem, noRoRow, Pc.av, noRoL, noRo])) (by simp only [noIdR_ok, argOkL, argOk, allOk, argOkN, List.drop_zero, lk, reduceIte, reduceCtorEq, Nat.reduceEqDiff, Option.some.injEq, Item.row.injEq, Item.box.injEq, AV.ro.injEq, exists_eq_left, exists_and_left, exists_eq_left', exists_eq_right, and_assoc, and_true, true_and, List.cons.injEq, exists_eq', exists_eq]) (by simp [outOk, argOkL, allOk, argOk, argOkN, lk, noIdR_ok]) rfl ?_
  (repeat' first | with_reducible (first | intro _ | refine rc ?_ | refine rl ?_ | refine rh ?_ | refine rt ?_ | refine rf ?_ | refine rs ?_ | refine And.intro ?_ ?_) | omega | simp (maxSteps := 1000000) only [go_sem, simprocAttr, ↓reduceIte, List.length_map])
  --LOOPS
  refine VcLoop.intro (fun k : Nat => ⟨226, [(78, .int .i64 k), (77, .int .i64 P.length), (76, .ro (pcR P)), (13, .int .i64 (cntL (P.take k))), (14, .int .i64 0), (15, .int .i64 0), (16, .int .i64 0), (11, .int .i64 N), (7, .ro (bks B)), (9, .ptr 2 0), (4, .ptr 1 0), (2, .int .i64 turn)], [(0, .box 53 [.int .i64 w, .int .i64 h, .ro (.bools q)]), (1, .box 55 [.int .i64 least, .int .i64 gx, .int .i64 gy, .int .i64 line, .int .i64 word]), (2, .box 53 [.int .i64 w, .int .i64 h, .ro (.bools c)])], 3⟩) (fun k => k ≤ P.length) (fun k => P.length - k) 0 ?_ (Nat.zero_le _) fun k hk => ?_
  · refine Ent.auto0 rfl ?_ ?_ <;> simp only [go_sem, reduceCtorEq, reduceIte, Nat.reduceEqDiff, Nat.reduceLT, Nat.reduceLeDiff, Int.natCast_succ, List.take_zero, cntL, List.map_nil, List.sum_nil]
  by_cases hlt : k < P.length
  · have he := pc_elem P hlt
    have hs := pc_takeI hlt
    have hb1 := cnt_le hPn k
    have hb2 := cnt_le hPn (k + 1)
    have hle := hpl (P.getD k Pc.zero) (by rw [getD_lt hlt]; exact List.getElem_mem hlt)
    rw [hs] at hb2
    generalize cntL (P.take k) = S at *
    generalize P.getD k Pc.zero = x at *
    obtain ⟨⟨bx, by', bw, bh⟩, n, px, py⟩ := x
    dsimp only at he hs hb2 hle
    (repeat' first | with_reducible (first | intro _ | refine rc ?_ | refine rl ?_ | refine rh ?_ | refine rt ?_ | refine rf ?_ | refine rs ?_ | refine And.intro ?_ ?_) | omega | simp (maxSteps := 1000000) only [go_sem, simprocAttr, ↓reduceIte, List.length_map, elemA, he])
    refine ⟨k + 1, Ent.auto0 rfl ?_ ?_, by omega, by omega⟩ <;> simp only [go_sem, reduceCtorEq, reduceIte, Nat.reduceEqDiff, Nat.reduceLT, Nat.reduceLeDiff, Int.natCast_succ, hs]
  have e : k = P.length := by omega
  subst e
  rw [List.take_length, hps]
  clear hpl hPn kP kS k1 kL kI
  (repeat' first | with_reducible (first | intro _ | refine rc ?_ | refine rl ?_ | refine rh ?_ | refine rt ?_ | refine rf ?_ | refine rs ?_ | refine And.intro ?_ ?_) | omega | simp (maxSteps := 1000000) only [go_sem, simprocAttr, ↓reduceIte, List.length_map])
  refine VcLoop.intro (fun k : Nat => ⟨226, [(95, .int .i64 k), (94, .int .i64 B.length), (93, .ro (bks B)), (19, .fn 22 [.ptr 2 0]), (13, .int .i64 N), (14, .int .i64 (sI c w ((B.take k).map Bk.b) : Nat)), (15, .int .i64 (sI c w (linesB (B.take k)) : Nat)), (16, .int .i64 (sI c w (flatB (B.take k)) : Nat)), (11, .int .i64 N), (7, .ro (bks B)), (9, .ptr 2 0), (4, .ptr 1 0), (2, .int .i64 turn)], [(0, .box 53 [.int .i64 w, .int .i64 h, .ro (.bools q)]), (1, .box 55 [.int .i64 least, .int .i64 gx, .int .i64 gy, .int .i64 line, .int .i64 word]), (2, .box 53 [.int .i64 w, .int .i64 h, .ro (.bools c)])], 3⟩) (fun k => k ≤ B.length) (fun k => B.length - k) 0 ?_ (Nat.zero_le _) fun k hk => ?_
  · refine Ent.auto0 rfl ?_ ?_ <;> simp only [go_sem, reduceCtorEq, reduceIte, Nat.reduceEqDiff, Nat.reduceLT, Nat.reduceLeDiff, Int.natCast_succ, List.take_zero, sI, linesB, flatB, List.flatMap_nil, List.map_nil, List.sum_nil]
  by_cases hlt : k < B.length
  · have he := hbe k hlt
    have s1 := sI_take c w (l := B.map Bk.b) (k := k) (by rw [List.length_map]; exact hlt)
    rw [← List.map_take, ← List.map_take, show (B.map Bk.b).getD k Nb.zero = (B.getD k Bk.zero).b by rw [getD_lt (by rw [List.length_map]; exact hlt), getD_lt hlt, List.getElem_map]] at s1
    have u1 := sI_le c w (B.map Bk.b) (k + 1)
    rw [← List.map_take, hsb, s1] at u1
    have u2 : sI c w (linesB (B.take (k + 1))) ≤ N := by
      have := sI_app c w (linesB (B.take (k + 1))) (linesB (B.drop (k + 1)))
      rw [← linesB_all, hsl] at this
      omega
    have u3 : sI c w (flatB (B.take (k + 1))) ≤ N := by
      have := sI_app c w (flatB (B.take (k + 1))) (flatB (B.drop (k + 1)))
      rw [← flatB_all, hsf] at this
      omega
    have s2 := linesB_succ hlt
    have s3 := flatB_succ hlt
    rw [s2, sI_app] at u2
    rw [s3, sI_app] at u3
    have kbk := kb (B.getD k Bk.zero).b (List.mem_map.2 ⟨_, by rw [getD_lt hlt]; exact List.getElem_mem hlt, rfl⟩)
    have klk : ∀ x, x ∈ (B.getD k Bk.zero).ls → x.b ∈ linesB B := fun x hx => List.mem_flatMap.2 ⟨_, by rw [getD_lt hlt] at *; exact List.getElem_mem hlt, List.mem_map.2 ⟨x, by rw [← getD_lt hlt (d := Bk.zero)]; exact hx, rfl⟩⟩
    have kfk : ∀ x, x ∈ (B.getD k Bk.zero).ls → ∀ y, y ∈ x.ws → y ∈ flatB B := fun x hx y hy => List.mem_flatMap.2 ⟨_, List.getElem_mem hlt, List.mem_flatMap.2 ⟨x, by rw [← getD_lt hlt (d := Bk.zero)]; exact hx, hy⟩⟩
    have n2 := congrArg (sI c w) s2
    have n3 := congrArg (sI c w) s3
    rw [sI_app] at n2 n3
    clear s2 s3
    generalize sI c w ((B.take k).map Bk.b) = S1 at *
    generalize sI c w (linesB (B.take k)) = S2 at *
    generalize sI c w (flatB (B.take k)) = S3 at *
    generalize inkB c w (B.getD k Bk.zero).b = n at *
    generalize B.getD k Bk.zero = b at *
    obtain ⟨⟨bx, by', bw, bh⟩, R⟩ := b
    dsimp only at he u1 u2 u3 s1 n2 n3 kbk klk kfk
    (repeat' first | with_reducible (first | intro _ | refine rc ?_ | refine rl ?_ | refine rh ?_ | refine rt ?_ | refine rf ?_ | refine rs ?_ | refine And.intro ?_ ?_) | omega | simp (maxSteps := 1000000) only [go_sem, simprocAttr, ↓reduceIte, List.length_map, elemA, he])
    refine VcCall.k kbk ?_
    (repeat' first | with_reducible (first | intro _ | refine rc ?_ | refine rl ?_ | refine rh ?_ | refine rt ?_ | refine rf ?_ | refine rs ?_ | refine And.intro ?_ ?_) | omega | simp (maxSteps := 1000000) only [go_sem, simprocAttr, ↓reduceIte, List.length_map])
    refine VcLoop.intro (fun j : Nat => ⟨226, [(108, .int .i64 j), (107, .int .i64 R.length), (106, .ro (lns R)), (95, .int .i64 k), (94, .int .i64 B.length), (93, .ro (bks B)), (19, .fn 22 [.ptr 2 0]), (13, .int .i64 N), (14, .int .i64 (S1 + n : Nat)), (15, .int .i64 (S2 + sI c w ((R.take j).map Ln.b) : Nat)), (16, .int .i64 (S3 + sI c w ((R.take j).flatMap Ln.ws) : Nat)), (11, .int .i64 N), (7, .ro (bks B)), (9, .ptr 2 0), (4, .ptr 1 0), (2, .int .i64 turn)], [(0, .box 53 [.int .i64 w, .int .i64 h, .ro (.bools q)]), (1, .box 55 [.int .i64 least, .int .i64 gx, .int .i64 gy, .int .i64 line, .int .i64 word]), (2, .box 53 [.int .i64 w, .int .i64 h, .ro (.bools c)])], 3⟩) (fun j => j ≤ R.length) (fun j => R.length - j) 0 ?_ (Nat.zero_le _) fun j hj => ?_
    · refine Ent.auto0 rfl ?_ ?_ <;> simp only [go_sem, reduceCtorEq, reduceIte, Nat.reduceEqDiff, Nat.reduceLT, Nat.reduceLeDiff, Int.natCast_succ, List.take_zero, sI, List.flatMap_nil, List.map_nil, List.sum_nil]
      all_goals simp
    by_cases hjl : j < R.length
    · have hel := ln_elem R hjl
      have hm : R.getD j Ln.zero ∈ R := by rw [getD_lt hjl]; exact List.getElem_mem hjl
      have t2 := sI_take c w (l := R.map Ln.b) (k := j) (by rw [List.length_map]; exact hjl)
      rw [← List.map_take, ← List.map_take, show (R.map Ln.b).getD j Nb.zero = (R.getD j Ln.zero).b by rw [getD_lt (by rw [List.length_map]; exact hjl), getD_lt hjl, List.getElem_map]] at t2
      have v2 := sI_le c w (R.map Ln.b) (j + 1)
      rw [← List.map_take, t2] at v2
      have t3 := congrArg (sI c w) (ws_succ hjl)
      rw [sI_app] at t3
      have v3 : sI c w ((R.take (j + 1)).flatMap Ln.ws) ≤ sI c w (R.flatMap Ln.ws) := by
        have := sI_app c w ((R.take (j + 1)).flatMap Ln.ws) ((R.drop (j + 1)).flatMap Ln.ws)
        rw [← List.flatMap_append, List.take_append_drop] at this
        omega
      rw [t3] at v3
      have klj := kl _ (klk _ hm)
      have kfj := fun y hy => kf y (kfk _ hm y hy)
      generalize sI c w ((R.take j).map Ln.b) = T2 at *
      generalize sI c w ((R.take j).flatMap Ln.ws) = T3 at *
      generalize inkB c w (R.getD j Ln.zero).b = m at *
      generalize R.getD j Ln.zero = x at *
      obtain ⟨⟨lx, ly, lw, lh⟩, s, V⟩ := x
      dsimp only at hel t2 t3 v2 v3 klj kfj
      (repeat' first | with_reducible (first | intro _ | refine rc ?_ | refine rl ?_ | refine rh ?_ | refine rt ?_ | refine rf ?_ | refine rs ?_ | refine And.intro ?_ ?_) | omega | simp (maxSteps := 1000000) only [go_sem, simprocAttr, ↓reduceIte, List.length_map, elemA, hel])
      refine VcCall.k klj ?_
      (repeat' first | with_reducible (first | intro _ | refine rc ?_ | refine rl ?_ | refine rh ?_ | refine rt ?_ | refine rf ?_ | refine rs ?_ | refine And.intro ?_ ?_) | omega | simp (maxSteps := 1000000) only [go_sem, simprocAttr, ↓reduceIte, List.length_map, nbs])
      refine VcLoop.intro (fun i : Nat => ⟨226, [(121, .int .i64 i), (120, .int .i64 V.length), (119, .ro (.objs 4 (V.map Nb.av))), (108, .int .i64 j), (107, .int .i64 R.length), (106, .ro (lns R)), (95, .int .i64 k), (94, .int .i64 B.length), (93, .ro (bks B)), (19, .fn 22 [.ptr 2 0]), (13, .int .i64 N), (14, .int .i64 (S1 + n : Nat)), (15, .int .i64 (S2 + T2 + m : Nat)), (16, .int .i64 (S3 + T3 + sI c w (V.take i) : Nat)), (11, .int .i64 N), (7, .ro (bks B)), (9, .ptr 2 0), (4, .ptr 1 0), (2, .int .i64 turn)], [(0, .box 53 [.int .i64 w, .int .i64 h, .ro (.bools q)]), (1, .box 55 [.int .i64 least, .int .i64 gx, .int .i64 gy, .int .i64 line, .int .i64 word]), (2, .box 53 [.int .i64 w, .int .i64 h, .ro (.bools c)])], 3⟩) (fun i => i ≤ V.length) (fun i => V.length - i) 0 ?_ (Nat.zero_le _) fun i hi => ?_
      · refine Ent.auto0 rfl ?_ ?_ <;> simp only [go_sem, reduceCtorEq, reduceIte, Nat.reduceEqDiff, Nat.reduceLT, Nat.reduceLeDiff, Int.natCast_succ, List.take_zero, sI, List.map_nil, List.sum_nil]
        all_goals simp
      by_cases hil : i < V.length
      · have hev := nb_elem V hil
        have hmv : V.getD i Nb.zero ∈ V := by rw [getD_lt hil]; exact List.getElem_mem hil
        have r3 := sI_take c w hil
        have x3 := sI_le c w V (i + 1)
        rw [r3] at x3
        have kfi := kfj _ hmv
        generalize sI c w (V.take i) = W3 at *
        generalize inkB c w (V.getD i Nb.zero) = z at *
        generalize V.getD i Nb.zero = y at *
        obtain ⟨yx, yy, yw, yh⟩ := y
        dsimp only at hev kfi
        (repeat' first | with_reducible (first | intro _ | refine rc ?_ | refine rl ?_ | refine rh ?_ | refine rt ?_ | refine rf ?_ | refine rs ?_ | refine And.intro ?_ ?_) | omega | simp (maxSteps := 1000000) only [go_sem, simprocAttr, ↓reduceIte, List.length_map, elemA, hev])
        refine VcCall.k kfi ?_
        (repeat' first | with_reducible (first | intro _ | refine rc ?_ | refine rl ?_ | refine rh ?_ | refine rt ?_ | refine rf ?_ | refine rs ?_ | refine And.intro ?_ ?_) | omega | simp (maxSteps := 1000000) only [go_sem, simprocAttr, ↓reduceIte, List.length_map])
        refine ⟨i + 1, Ent.auto0 rfl ?_ ?_, by omega, by omega⟩ <;> simp only [go_sem, reduceCtorEq, reduceIte, Nat.reduceEqDiff, Nat.reduceLT, Nat.reduceLeDiff, Int.natCast_succ, r3, nbs]
        all_goals omega
      have e : i = V.length := by omega
      subst e
      rw [List.take_length]
      (repeat' first | with_reducible (first | intro _ | refine rc ?_ | refine rl ?_ | refine rh ?_ | refine rt ?_ | refine rf ?_ | refine rs ?_ | refine And.intro ?_ ?_) | omega | simp (maxSteps := 1000000) only [go_sem, simprocAttr, ↓reduceIte, List.length_map])
      refine ⟨j + 1, Ent.auto0 rfl ?_ ?_, by omega, by omega⟩ <;> simp only [go_sem, reduceCtorEq, reduceIte, Nat.reduceEqDiff, Nat.reduceLT, Nat.reduceLeDiff, Int.natCast_succ, t2, t3]
      all_goals omega
    have e : j = R.length := by omega
    subst e
    rw [List.take_length]
    (repeat' first | with_reducible (first | intro _ | refine rc ?_ | refine rl ?_ | refine rh ?_ | refine rt ?_ | refine rf ?_ | refine rs ?_ | refine And.intro ?_ ?_) | omega | simp (maxSteps := 1000000) only [go_sem, simprocAttr, ↓reduceIte, List.length_map])
    refine ⟨k + 1, Ent.auto0 rfl ?_ ?_, by omega, by omega⟩ <;> simp only [go_sem, reduceCtorEq, reduceIte, Nat.reduceEqDiff, Nat.reduceLT, Nat.reduceLeDiff, Int.natCast_succ, s1, n2, n3]
    all_goals omega
  have e : k = B.length := by omega
  subst e
  rw [List.take_length, hsb, hsl, hsf]
  clear kb kl kf hbe hsb hsl hsf hcb hcln
  (repeat' first | with_reducible (first | intro _ | refine rc ?_ | refine rl ?_ | refine rh ?_ | refine rt ?_ | refine rf ?_ | refine rs ?_ | refine And.intro ?_ ?_) | omega | simp (maxSteps := 1000000) only [go_sem, simprocAttr, ↓reduceIte, List.length_map])
  refine VcCall.ro (.ro (nbs (flatB B))) (FnFr.of_ok kF rfl (by simp [noRoRows, noRoItem, noRoRow, nbs, Nb.av, noRoL, noRo])) (by simp only [noIdR_ok, argOkL, argOk, allOk, argOkN, List.drop_zero, lk, reduceIte, reduceCtorEq, Nat.reduceEqDiff, Option.some.injEq, Item.row.injEq, Item.box.injEq, AV.ro.injEq, exists_eq_left, exists_and_left, exists_eq_left', exists_eq_right, and_assoc, and_true, true_and, List.cons.injEq, exists_eq', exists_eq]) (by simp [outOk, argOkL, allOk, argOk, argOkN, lk, noIdR_ok, nbs]) rfl ?_
  have hTl : ((flatB B).map bxN).length ≤ 1024 := by rw [List.length_map]; omega
  have hTe : (flatB B).length = ((flatB B).map bxN).length := (List.length_map ..).symm
  have hN0 : ((flatB B).map bxN).length = 0 → N = 0 := fun hz => by
    have := hcf.sum
    rw [List.length_map] at hz
    rw [List.eq_nil_of_length_eq_zero hz] at this
    rw [← hN]
    exact this.symm
  rw [show nbs (flatB B) = .objs 4 (((flatB B).map bxN).map Bx.av) from congrArg (RowV.objs 4) (nbs_bxs _)]
  clear hcf hfl kF hTe
  generalize (flatB B).map bxN = T at *
  have hb := hbx
  have hf := firstBad_zero.2 hb
  have hgx : (1 : Int) ≤ gx ∧ (gx : Int) ≤ 4000 := by omega
  have hgy : (1 : Int) ≤ gy ∧ (gy : Int) ≤ 4000 := by omega
  have kO := order_ok T hb hf (by omega) gx gy hgx hgy
  have hol := ordOf_len T hb (by omega) gx gy hgx hgy
  by_cases hz : T.length = 0
  · have hN00 := hN0 hz
    (repeat' first | with_reducible (first | intro _ | refine rc ?_ | refine rl ?_ | refine rh ?_ | refine rt ?_ | refine rf ?_ | refine rs ?_ | refine And.intro ?_ ?_) | omega | simp (maxSteps := 1000000) only [go_sem, simprocAttr, ↓reduceIte, List.length_map, hz])
    refine Ret.auto 0 ?_ rfl ?_ <;> simp only [go_sem, reduceCtorEq, reduceIte, Nat.reduceEqDiff, Nat.reduceLT, Nat.reduceLeDiff, Int.natCast_succ, Post]
    all_goals omega
  obtain ⟨r, k, hr, hrb, hk, hkn⟩ := rem_bd turn T.length (by omega)
  have hA' : List.take (T.length - k) (List.drop k (T.map Bx.av)) = (T.drop k).map Bx.av := by
    rw [List.map_drop, List.take_of_length_le (by rw [List.length_drop, List.length_map]; omega)]
  have hB' : List.take k (T.map Bx.av) = (T.take k).map Bx.av := (List.map_take ..).symm
  have hMp : (T.drop k ++ T.take k).Perm T := by
    have := List.perm_append_comm (l₁ := T.drop k) (l₂ := T.take k)
    rwa [List.take_append_drop] at this
  have hMl := hMp.length_eq
  have kC := concat_ok (T.drop k) (T.take k) (by rw [List.length_drop]; omega) (by rw [List.length_take]; omega)
  have hseq := turn_seq T gx gy hgx.1 hgy.1 hb _ hMp
  generalize T.drop k ++ T.take k = M at *
  have hMb : ∀ b, b ∈ M → BxOk b := fun b h => hb b (hMp.mem_iff.1 h)
  have kO2 := order_ok M hMb (firstBad_zero.2 hMb) (by omega) gx gy hgx hgy
  have hol2 : (ordOf M gx gy).length = M.length := ordOf_len M hMb (by omega) gx gy hgx hgy
  have hm1 := ordOf_mem T gx gy
  have hm2 := ordOf_mem M gx gy
  generalize ordOf T gx gy = o1 at *
  generalize ordOf M gx gy = o2 at *
  (repeat' first | with_reducible (first | intro _ | refine rc ?_ | refine rl ?_ | refine rh ?_ | refine rt ?_ | refine rf ?_ | refine rs ?_ | refine And.intro ?_ ?_) | omega | simp (maxSteps := 1000000) only [go_sem, simprocAttr, ↓reduceIte, List.length_map, hr, hk])
  refine VcCall.ro (.tup [.ro (.ints .i64 o1), .int .i64 0]) (FnFr.of_ok kO rfl rfl) (by simp only [noIdR_ok, argOkL, argOk, allOk, argOkN, List.drop_zero, lk, reduceIte, reduceCtorEq, Nat.reduceEqDiff, Option.some.injEq, Item.row.injEq, Item.box.injEq, AV.ro.injEq, exists_eq_left, exists_and_left, exists_eq_left', exists_eq_right, and_assoc, and_true, true_and, List.cons.injEq, exists_eq', exists_eq]) (by simp [outOk, argOkL, allOk, argOk, argOkN, lk, noIdR_ok]) rfl ?_
  (repeat' first | with_reducible (first | intro _ | refine rc ?_ | refine rl ?_ | refine rh ?_ | refine rt ?_ | refine rf ?_ | refine rs ?_ | refine And.intro ?_ ?_) | omega | simp (maxSteps := 1000000) only [go_sem, simprocAttr, ↓reduceIte, List.length_map])
  refine VcDraw.lex [6] [] (by kernel_rfl) (by kernel_rfl) ?_
  (repeat' first | with_reducible (first | intro _ | refine rc ?_ | refine rl ?_ | refine rh ?_ | refine rt ?_ | refine rf ?_ | refine rs ?_ | refine And.intro ?_ ?_) | omega | simp (maxSteps := 1000000) only [go_sem, simprocAttr, ↓reduceIte, List.length_map, Int.toNat_natCast, Nat.sub_zero, List.drop_zero, hA', hB'])
  refine QV.intro (.ro (bxs M)) ?_ ?_
  · (repeat' first | with_reducible (first | intro _ | refine rc ?_ | refine rl ?_ | refine rh ?_ | refine rt ?_ | refine rf ?_ | refine rs ?_ | refine And.intro ?_ ?_) | omega | simp (maxSteps := 1000000) only [go_sem, simprocAttr, ↓reduceIte])
    refine VcCall.ro (.ro (bxs M)) (FnFr.of_ok kC rfl (by simp [noRoRows, noRoItem, noRoRow, Bx.av, noRoL, noRo])) (by simp only [noIdR_ok, argOkL, argOk, allOk, argOkN, List.drop_zero, lk, reduceIte, reduceCtorEq, Nat.reduceEqDiff, Option.some.injEq, Item.row.injEq, Item.box.injEq, AV.ro.injEq, exists_eq_left, exists_and_left, exists_eq_left', exists_eq_right, and_assoc, and_true, true_and, List.cons.injEq, exists_eq', exists_eq]) (by simp [outOk, argOkL, allOk, argOk, argOkN, lk, noIdR_ok]) rfl ?_
    (repeat' first | with_reducible (first | intro _ | refine rc ?_ | refine rl ?_ | refine rh ?_ | refine rt ?_ | refine rf ?_ | refine rs ?_ | refine And.intro ?_ ?_) | omega | simp (maxSteps := 1000000) only [go_sem, simprocAttr, ↓reduceIte])
  (repeat' first | with_reducible (first | intro _ | refine rc ?_ | refine rl ?_ | refine rh ?_ | refine rt ?_ | refine rf ?_ | refine rs ?_ | refine And.intro ?_ ?_) | omega | simp (maxSteps := 1000000) only [go_sem, simprocAttr, ↓reduceIte])
  refine VcCall.ro (.tup [.ro (.ints .i64 o2), .int .i64 0]) (FnFr.of_ok kO2 rfl rfl) (by simp only [noIdR_ok, argOkL, argOk, allOk, argOkN, List.drop_zero, lk, reduceIte, reduceCtorEq, Nat.reduceEqDiff, Option.some.injEq, Item.row.injEq, Item.box.injEq, AV.ro.injEq, exists_eq_left, exists_and_left, exists_eq_left', exists_eq_right, and_assoc, and_true, true_and, List.cons.injEq, exists_eq', exists_eq]) (by simp [outOk, argOkL, allOk, argOk, argOkN, lk, noIdR_ok]) rfl ?_
  (repeat' first | with_reducible (first | intro _ | refine rc ?_ | refine rl ?_ | refine rh ?_ | refine rt ?_ | refine rf ?_ | refine rs ?_ | refine And.intro ?_ ?_) | omega | simp (maxSteps := 1000000) only [go_sem, simprocAttr, ↓reduceIte])
  refine VcLoop.intro (fun i : Nat => ⟨226, [(207, .int .i64 i), (206, .int .i64 o1.length), (28, .ro (.ints .i64 o1)), (29, .ro (bxs M)), (30, .ro (.ints .i64 o2)), (26, .ro (.objs 4 (T.map Bx.av)))], [], 0⟩) (fun i => i ≤ o1.length) (fun i => o1.length - i) 0 ?_ (Nat.zero_le _) fun i hi => ?_
  · refine Ent.auto0 rfl ?_ ?_ <;> simp only [go_sem, reduceCtorEq, reduceIte, Nat.reduceEqDiff, Nat.reduceLT, Nat.reduceLeDiff, Int.natCast_succ]
  by_cases hlt : i < o1.length
  · have i1 := hm1 (o1.getD i 0) (by rw [getD_lt hlt]; exact List.getElem_mem _)
    have i2 := hm2 (o2.getD i 0) (by rw [getD_lt (by omega)]; exact List.getElem_mem _)
    have e1 := bAt_elem i1
    have e2 := bAt_elem i2
    have es : bAt T (o1.getD i 0) = bAt M (o2.getD i 0) := by
      have h := congrArg (fun l => l[i]?) hseq
      simp only [List.getElem?_map] at h
      rw [List.getElem?_eq_getElem hlt, List.getElem?_eq_getElem (by omega)] at h
      rw [getD_lt hlt, getD_lt (by omega)]
      simpa using h
    rw [es] at e1
    unfold InL at i1 i2
    generalize bAt M (o2.getD i 0) = b at *
    (repeat' first | with_reducible (first | intro _ | refine rc ?_ | refine rl ?_ | refine rh ?_ | refine rt ?_ | refine rf ?_ | refine rs ?_ | refine And.intro ?_ ?_) | omega | simp (maxSteps := 1000000) only [go_sem, simprocAttr, ↓reduceIte])
    refine VcDraw.lex [] [] (by kernel_rfl) (by kernel_rfl) ?_
    (repeat' first | with_reducible (first | intro _ | refine rc ?_ | refine rl ?_ | refine rh ?_ | refine rt ?_ | refine rf ?_ | refine rs ?_ | refine And.intro ?_ ?_) | omega | simp (maxSteps := 1000000) only [go_sem, simprocAttr, ↓reduceIte, List.length_map, elemA, e1, e2])
    refine ⟨i + 1, Ent.auto0 rfl ?_ ?_, by omega, by omega⟩ <;> simp only [go_sem, reduceCtorEq, reduceIte, Nat.reduceEqDiff, Nat.reduceLT, Nat.reduceLeDiff, Int.natCast_succ]
  · (repeat' first | with_reducible (first | intro _ | refine rc ?_ | refine rl ?_ | refine rh ?_ | refine rt ?_ | refine rf ?_ | refine rs ?_ | refine And.intro ?_ ?_) | omega | simp (maxSteps := 1000000) only [go_sem, simprocAttr, ↓reduceIte])
    refine Ret.auto 0 ?_ rfl ?_ <;> simp only [go_sem, reduceCtorEq, reduceIte, Nat.reduceEqDiff, Nat.reduceLT, Nat.reduceLeDiff, Int.natCast_succ, Post]
set_option maxHeartbeats 4000000 in
theorem topBad (W H : Int) (p : List Bool) (w h : Nat) (q : List Bool) (k1 : FnOk Tryz.prog 17 [.agg [.int .i64 W, .int .i64 H, .ro (.bools p)]] (.agg [.int .i64 w, .int .i64 h, .own 0]) [(0, .row 4 (.bools q))]) (w1 : 1 ≤ w) (w2 : w ≤ 32) (h1 : 1 ≤ h) (h2 : h ≤ 32) (hq : q.length = w * h) (least gx gy line word : Int) (hw : ¬ WaysIn least gx gy line word) (turn : Int) : FnOk Tryz.prog 4 [.agg [.int .i64 W, .int .i64 H, .ro (.bools p)], .agg [.int .i64 least, .int .i64 gx, .int .i64 gy, .int .i64 line, .int .i64 word], .int .i64 turn] (.bool true) [] := by
  have kL := layoutE_ok w h w1 w2 h1 h2 q hq least gx gy line word hw
  refine FnOk.of_vc Tryz.func4 rfl (by decide) (by simp [Tryz.f4]) [.tmp 6] rfl fun w0 T0 _ => ?_
  simp only [Tryz.f4, argEnv]
  (repeat' first | with_reducible (first | intro _ | refine rc ?_ | refine rl ?_ | refine rh ?_ | refine rt ?_ | refine rf ?_ | refine rs ?_ | refine And.intro ?_ ?_) | omega | simp (maxSteps := 1000000) only [go_sem, simprocAttr, ↓reduceIte])
  refine VcCall.k (landedT_ok) ?_
  (repeat' first | with_reducible (first | intro _ | refine rc ?_ | refine rl ?_ | refine rh ?_ | refine rt ?_ | refine rf ?_ | refine rs ?_ | refine And.intro ?_ ?_) | omega | simp (maxSteps := 1000000) only [go_sem, simprocAttr, ↓reduceIte])
  refine VcCall.ro (.agg [.int .i64 w, .int .i64 h, .ro (.bools q)]) (FnFr.of_ok k1 rfl rfl) (by simp only [noIdR_ok, argOkL, argOk, allOk, argOkN, List.drop_zero, lk, reduceIte, reduceCtorEq, Nat.reduceEqDiff, Option.some.injEq, Item.row.injEq, Item.box.injEq, AV.ro.injEq, exists_eq_left, exists_and_left, exists_eq_left', exists_eq_right, and_assoc, and_true, true_and, List.cons.injEq, exists_eq', exists_eq]) (by simp [outOk, argOk, allOk, argOkN, lk]) rfl ?_
  (repeat' first | with_reducible (first | intro _ | refine rc ?_ | refine rl ?_ | refine rh ?_ | refine rt ?_ | refine rf ?_ | refine rs ?_ | refine And.intro ?_ ?_) | omega | simp (maxSteps := 1000000) only [go_sem, simprocAttr, ↓reduceIte])
  refine VcCall.ro (.tup [.ro (bks []), .int .i64 3]) (FnFr.of_ok kL rfl (by simp [noRoRows, noRoItem, noRoRow, noRoL, noRo])) (by simp only [noIdR_ok, argOkL, argOk, allOk, argOkN, List.drop_zero, lk, reduceIte, reduceCtorEq, Nat.reduceEqDiff, Option.some.injEq, Item.row.injEq, Item.box.injEq, AV.ro.injEq, exists_eq_left, exists_and_left, exists_eq_left', exists_eq_right, and_assoc, and_true, true_and, List.cons.injEq, exists_eq', exists_eq]) (by simp [outOk, argOkL, allOk, argOk, argOkN, lk, noIdR_ok]) rfl ?_
  (repeat' first | with_reducible (first | intro _ | refine rc ?_ | refine rl ?_ | refine rh ?_ | refine rt ?_ | refine rf ?_ | refine rs ?_ | refine And.intro ?_ ?_) | omega | simp (maxSteps := 1000000) only [go_sem, simprocAttr, ↓reduceIte, List.map_nil, List.length_nil])
  refine Ret.auto 0 ?_ rfl ?_ <;> simp only [go_sem, reduceCtorEq, reduceIte, Nat.reduceEqDiff, Nat.reduceLT, Nat.reduceLeDiff, Int.natCast_succ, Post]
theorem topAllInk_ok (W H : Int) (p : List Bool) (least gx gy line word turn : Int) : FnOk Tryz.prog 4 [.agg [.int .i64 W, .int .i64 H, .ro (.bools p)], .agg [.int .i64 least, .int .i64 gx, .int .i64 gy, .int .i64 line, .int .i64 word], .int .i64 turn] (.bool true) [] := by
  obtain ⟨w1, w2, _⟩ := (show 1 ≤ fitN W 31 ∧ fitN W 31 ≤ 32 ∧ 1 + bitsI .and .i64 W 31 = ((fitN W 31 : Nat) : Int) from fitN_bd W 31 (by decide))
  obtain ⟨h1, h2, _⟩ := (show 1 ≤ fitN H 31 ∧ fitN H 31 ≤ 32 ∧ 1 + bitsI .and .i64 H 31 = ((fitN H 31 : Nat) : Int) from fitN_bd H 31 (by decide))
  have k1 := sheetOf_ok ⟨W, H, p⟩
  unfold Pg.av at k1
  dsimp only at k1
  have hl := shB_len p (fitN W 31 * fitN H 31)
  generalize shB p (fitN W 31 * fitN H 31) = q at *
  generalize fitN W 31 = w at *
  generalize fitN H 31 = h at *
  by_cases hw : WaysIn least gx gy line word
  · have hw' := hw
    unfold WaysIn at hw'
    obtain ⟨a, rfl⟩ := Int.eq_ofNat_of_zero_le (show 0 ≤ least by omega)
    obtain ⟨b, rfl⟩ := Int.eq_ofNat_of_zero_le (show 0 ≤ gx by omega)
    obtain ⟨c, rfl⟩ := Int.eq_ofNat_of_zero_le (show 0 ≤ gy by omega)
    obtain ⟨d, rfl⟩ := Int.eq_ofNat_of_zero_le (show 0 ≤ line by omega)
    obtain ⟨e, rfl⟩ := Int.eq_ofNat_of_zero_le (show 0 ≤ word by omega)
    exact topGood W H p w h q k1 w1 w2 h1 h2 hl a b c d e hw turn
  · exact topBad W H p w h q k1 w1 w2 h1 h2 hl least gx gy line word hw turn
end Go.Fv.U
