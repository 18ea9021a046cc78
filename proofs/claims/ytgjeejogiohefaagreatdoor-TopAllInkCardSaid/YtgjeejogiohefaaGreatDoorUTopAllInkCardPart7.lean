/-
  A part of the proof of the claim: walks over the program's functions and the plain laws that these need. No condition of its own.
-/
import Derived.Test.YtgjeejogiohefaaGreatDoorUTopAllInkCardPart4
import Derived.Test.YtgjeejogiohefaaGreatDoorUTopAllInkCardPart5
import Derived.Test.YtgjeejogiohefaaGreatDoorUTopAllInkCardPart6
import Derived.Test.YtgjeejogiohefaaGreatDoorFvPart11
/-! Layout: the walk. -/
namespace Go.Fv.U
open Go Go.Proofs
set_option linter.unusedSimpArgs false
set_option linter.unusedVariables false
set_option linter.unnecessarySimpa false
set_option maxRecDepth 8000

/-- The page without its specks. -/
def spk (w h : Nat) (p : List Bool) (least : Nat) : List Bool := (chgAll (!true) (speckB ((least : Int) - 1)) p (pieces ⟨p, w, h, true, true⟩)).p
theorem spk_len (w h : Nat) (p : List Bool) (least : Nat) : (spk w h p least).length = p.length := (chgAll_len _ _ _ _).1
set_option maxHeartbeats 8000000 in
theorem layout_ok (w h : Nat) (hw1 : 1 ≤ w) (hw : w ≤ 32) (hh1 : 1 ≤ h) (hh : h ≤ 32) (p : List Bool) (hp : p.length = w * h) (least gx gy line word : Nat) (h1 : 1 ≤ least) (h2 : least ≤ 1048576) (hx1 : 1 ≤ gx) (hx2 : gx ≤ 4000) (hy1 : 1 ≤ gy) (hy2 : gy ≤ 4000) (hl1 : 1 ≤ line) (hl2 : line ≤ 4000) (hwd : word ≤ 4000) :
    FnOk Tryz.prog 18 [.agg [.int .i64 w, .int .i64 h, .ro (.bools p)], .agg [.int .i64 least, .int .i64 gx, .int .i64 gy, .int .i64 line, .int .i64 word]] (.tup [.own 0, .int .i64 0]) [(0, .row 76 (bks (layL (spk w h p least) w h gx gy line word)))] := by
  have hwh : w * h ≤ 32 * 32 := Nat.mul_le_mul hw hh
  have kC := checkBits_ok w h p
  have kB := badGap_ok [(gx : Int), (gy : Int), (line : Int)] (by show 3 ≤ 1000; decide)
  rw [show [(gx : Int), (gy : Int), (line : Int)].any gapBad = false by simp [gapBad]; omega] at kB
  have kS := specks_ok w h hw1 (by omega) hh1 (by omega) p hp ((least : Int) - 1) (by omega)
  rw [show (chgAll (!true) (speckB ((least : Int) - 1)) p (pieces ⟨p, w, h, true, true⟩)).p = spk w h p least from rfl] at kS
  have hql := (spk_len w h p least).trans hp
  generalize (chgAll (!true) (speckB ((least : Int) - 1)) p (pieces ⟨p, w, h, true, true⟩)).n = ns at *
  generalize spk w h p least = q at *
  have hfull : InP ⟨0, 0, w, h⟩ w h := by unfold InP; dsimp only; omega
  have kP := splitB_ok w h hw1 (by omega) hh1 (by omega) (by omega) q hql ⟨0, 0, w, h⟩ hfull hw1 hh1 gx gy hx2 hy2 hx1 hy1
  rw [grayErr_ok hw1 (by omega) hh1 (by omega) hp] at kC
  have kI := inkSums_ok w h (by omega) (by omega) q hql
  have hc := cutL_spec q w gx gy (w + h + 1) ⟨0, 0, w, h⟩ (by dsimp only; omega)
  have hpt := hc.part
  have hink := hc.ink
  have hlen := hc.len
  have hink0 := inkN_le q w 0 0 w h
  rw [Nat.mul_comm] at hink0
  rw [show inkB q w ⟨0, 0, w, h⟩ = inkN q w 0 0 w h from rfl] at hlen
  clear hc
  unfold layL
  generalize cutL q w gx gy (w + h + 1) ⟨0, 0, w, h⟩ = L at *
  have hSL : sumL q w h = [.int .i64 w, .int .i64 h, .ro (.ints .i64 (sumsAt (inkV q) w ((w + 1) * (h + 1)) ((w + 1) * (h + 1))))] := rfl
  generalize sumsAt (inkV q) w ((w + 1) * (h + 1)) ((w + 1) * (h + 1)) = SL at *
  simp only [Nb.av, Int.natCast_zero, Int.cast_ofNat_Int] at kP
  refine FnOk.of_vc Tryz.func18 rfl (by decide) (by simp [Tryz.f18]) [.tmp 4, .tmp 5] rfl fun w0 T0 _ => ?_
  simp only [Tryz.f18, argEnv]
  (repeat' first | with_reducible (first | intro _ | refine rc ?_ | refine rl ?_ | refine rh ?_ | refine rt ?_ | refine rf ?_ | refine rs ?_ | refine And.intro ?_ ?_) | omega | simp (maxSteps := 1000000) only [go_sem, simprocAttr, ↓reduceIte])
  refine VcCall.k (kC) ?_
  have hd1 : decide (¬ ((least : Int) < 1 ∨ 1048576 < (least : Int))) = true := decide_eq_true (by omega)
  (repeat' first | with_reducible (first | intro _ | refine rc ?_ | refine rl ?_ | refine rh ?_ | refine rt ?_ | refine rf ?_ | refine rs ?_ | refine And.intro ?_ ?_) | omega | simp (maxSteps := 1000000) only [go_sem, simprocAttr, ↓reduceIte, hd1, cond_true])
  refine VcCall.k (kB) ?_
  (repeat' first | with_reducible (first | intro _ | refine rc ?_ | refine rl ?_ | refine rh ?_ | refine rt ?_ | refine rf ?_ | refine rs ?_ | refine And.intro ?_ ?_) | omega | simp (maxSteps := 1000000) only [go_sem, simprocAttr, ↓reduceIte])
  refine VcCall.ro (.tup [.agg [.int .i64 w, .int .i64 h, .ro (.bools q)], .int .i64 ns, .int .i64 0]) (FnFr.of_ok kS rfl rfl) (by simp only [noIdR_ok, argOkL, argOk, allOk, argOkN, List.drop_zero, lk, reduceIte, reduceCtorEq, Nat.reduceEqDiff, Option.some.injEq, Item.row.injEq, Item.box.injEq, AV.ro.injEq, exists_eq_left, exists_and_left, exists_eq_left', exists_eq_right, and_assoc, and_true, true_and, List.cons.injEq, exists_eq', exists_eq]) (by simp [outOk, argOkL, allOk, argOk, argOkN, lk, noIdR_ok]) rfl ?_
  (repeat' first | with_reducible (first | intro _ | refine rc ?_ | refine rl ?_ | refine rh ?_ | refine rt ?_ | refine rf ?_ | refine rs ?_ | refine And.intro ?_ ?_) | omega | simp (maxSteps := 1000000) only [go_sem, simprocAttr, ↓reduceIte])
  refine VcCall.ro (.tup [.ro (nbs L), .int .i64 0]) (FnFr.of_ok kP rfl (by simp [noRoRows, noRoItem, noRoRow, nbs, Nb.av, noRoL, noRo])) (by simp only [noIdR_ok, argOkL, argOk, allOk, argOkN, List.drop_zero, lk, reduceIte, reduceCtorEq, Nat.reduceEqDiff, Option.some.injEq, Item.row.injEq, Item.box.injEq, AV.ro.injEq, exists_eq_left, exists_and_left, exists_eq_left', exists_eq_right, and_assoc, and_true, true_and, List.cons.injEq, exists_eq', exists_eq]) (by simp [outOk, argOkL, allOk, argOk, argOkN, lk, noIdR_ok, nbs]) rfl ?_
  (repeat' first | with_reducible (first | intro _ | refine rc ?_ | refine rl ?_ | refine rh ?_ | refine rt ?_ | refine rf ?_ | refine rs ?_ | refine And.intro ?_ ?_) | omega | simp (maxSteps := 1000000) only [go_sem, simprocAttr, ↓reduceIte])
  refine VcDraw.lex [4] [] (by kernel_rfl) (by kernel_rfl) ?_
  (repeat' first | with_reducible (first | intro _ | refine rc ?_ | refine rl ?_ | refine rh ?_ | refine rt ?_ | refine rf ?_ | refine rs ?_ | refine And.intro ?_ ?_) | omega | simp (maxSteps := 1000000) only [go_sem, simprocAttr, ↓reduceIte])
  refine QV.intro (.cell [.int .i64 w, .int .i64 h, .ro (.ints .i64 SL)]) ?_ ?_
  · (repeat' first | with_reducible (first | intro _ | refine rc ?_ | refine rl ?_ | refine rh ?_ | refine rt ?_ | refine rf ?_ | refine rs ?_ | refine And.intro ?_ ?_) | omega | simp (maxSteps := 1000000) only [go_sem, simprocAttr, ↓reduceIte])
    refine VcCall.ro (.cell [.int .i64 w, .int .i64 h, .ro (.ints .i64 SL)]) (FnFr.of_ok kI rfl (by simp [noRoRows, noRoItem, noRoRow, noRoL, noRo])) (by simp only [noIdR_ok, argOkL, argOk, allOk, argOkN, List.drop_zero, lk, reduceIte, reduceCtorEq, Nat.reduceEqDiff, Option.some.injEq, Item.row.injEq, Item.box.injEq, AV.ro.injEq, exists_eq_left, exists_and_left, exists_eq_left', exists_eq_right, and_assoc, and_true, true_and, List.cons.injEq, exists_eq', exists_eq]) (by simp [outOk, argOkL, argOk, argOkN, lk]; exact ⟨_, _, ⟨rfl, rfl⟩, by simp [allOk, argOkN, lk, noIdR_ok]⟩) rfl ?_
    (repeat' first | with_reducible (first | intro _ | refine rc ?_ | refine rl ?_ | refine rh ?_ | refine rt ?_ | refine rf ?_ | refine rs ?_ | refine And.intro ?_ ?_) | omega | simp (maxSteps := 1000000) only [go_sem, simprocAttr, ↓reduceIte])
  (repeat' first | with_reducible (first | intro _ | refine rc ?_ | refine rl ?_ | refine rh ?_ | refine rt ?_ | refine rf ?_ | refine rs ?_ | refine And.intro ?_ ?_) | omega | simp (maxSteps := 1000000) only [go_sem, simprocAttr, ↓reduceIte, nbs, List.length_map])
  refine VcLoop.intro (fun k : Nat => ⟨137, [(89, .int .i64 k), (88, .int .i64 L.length), (87, .ro (.objs 4 (L.map Nb.av))), (11, .own 2), (10, .ptr 3 0), (3, .ptr 1 0), (2, .ptr 0 0)], [(0, .box 53 [.int .i64 w, .int .i64 h, .ro (.bools q)]), (1, .box 55 [.int .i64 least, .int .i64 gx, .int .i64 gy, .int .i64 line, .int .i64 word]), (2, .row 76 (bks ((L.take k).map (layBk q w line word)))), (3, .box 145 [.int .i64 w, .int .i64 h, .ro (.bools q), .cell [.int .i64 w, .int .i64 h, .ro (.ints .i64 SL)], .int .i64 0, .int .i64 0, .nilS])], 4⟩) (fun k => k ≤ L.length) (fun k => L.length - k) 0 ?_ (Nat.zero_le _) fun k hk => ?_
  · refine Ent.auto0 rfl ?_ ?_ <;> simp only [go_sem, reduceCtorEq, reduceIte, Nat.reduceEqDiff, Nat.reduceLT, Nat.reduceLeDiff, Int.natCast_succ, List.take_zero, List.map_nil]
  by_cases hlt : k < L.length
  · have he := nb_elem L hlt
    have hmem : L.getD k Nb.zero ∈ L := by rw [getD_lt hlt]; exact List.getElem_mem hlt
    have hts : ((L.take (k + 1)).map (layBk q w line word)).map Bk.av = ((L.take k).map (layBk q w line word)).map Bk.av ++ [(⟨L.getD k Nb.zero, ((linesR q w (L.getD k Nb.zero) line).map (rowBox q w (L.getD k Nb.zero))).map (layLn q w word)⟩ : Bk).av] := by
      rw [List.take_succ_eq_append_getElem hlt, getD_lt hlt, List.map_append, List.map_append]; rfl
    have hpk := hpt _ hmem
    have hik := hink _ hmem
    generalize L.getD k Nb.zero = b at *
    have hib : InP b w h := hfull.of hpk
    have kR := rows_ok q w h (by omega) (by omega) 0 0 b hib line hl1 hl2
    have hRc := rows_cuts q w b line
    have hRp := hRc.part
    have hRi := hRc.ink
    have hRl := hRc.len
    have hib2 := inkN_le q w b.x b.y b.w b.h
    rw [show inkB q w b = inkN q w b.x b.y b.w b.h from rfl] at hRl
    have hbb : b.h * b.w ≤ 32 * 32 := Nat.mul_le_mul (by unfold InP at hib; omega) (by unfold InP at hib; omega)
    have hRb := Nat.le_trans hRl (Nat.le_trans hib2 hbb)
    clear hRc hRl hib2 hbb
    generalize (linesR q w b line).map (rowBox q w b) = R at *
    obtain ⟨bx, by', bw, bh⟩ := b
    simp only [ctr, Nb.av, Int.natCast_zero] at kR
    rw [hSL] at kR
    dsimp only at he
    rw [show ∀ b s, (⟨b, s⟩ : Bk).av = [.int .i64 b.x, .int .i64 b.y, .int .i64 b.w, .int .i64 b.h, .ro (lns s)] from fun _ _ => rfl] at hts
    dsimp only at hts
    have hnl : (L.take k).length = k := by rw [List.length_take]; omega
    (repeat' first | with_reducible (first | intro _ | refine rc ?_ | refine rl ?_ | refine rh ?_ | refine rt ?_ | refine rf ?_ | refine rs ?_ | refine And.intro ?_ ?_) | omega | simp (maxSteps := 1000000) only [go_sem, simprocAttr, ↓reduceIte, List.length_map, elemA, he])
    refine VcCall.ro (.ro (nbs R)) (FnFr.of_ok kR rfl (by simp [noRoRows, noRoItem, noRoRow, nbs, Nb.av, noRoL, noRo])) (by simp [argOkL, argOk, allOk, argOkN, lk, noIdR_ok, nbs, nilRow]; exact ⟨_, _, ⟨rfl, rfl⟩, by simp [allOk, argOkN, noIdR_ok, nilRow]⟩) (by simp [outOk, argOkL, allOk, argOk, argOkN, lk, noIdR_ok, nbs]) rfl ?_
    (repeat' first | with_reducible (first | intro _ | refine rc ?_ | refine rl ?_ | refine rh ?_ | refine rt ?_ | refine rf ?_ | refine rs ?_ | refine And.intro ?_ ?_) | omega | simp (maxSteps := 1000000) only [go_sem, simprocAttr, ↓reduceIte, nbs, List.length_map])
    refine VcLoop.run (fun j : Nat => ⟨137, [(101, .int .i64 j), (100, .int .i64 R.length), (99, .ro (.objs 4 (R.map Nb.av))), (14, .ptr 5 0), (89, .int .i64 k), (88, .int .i64 L.length), (87, .ro (.objs 4 (L.map Nb.av))), (11, .own 2), (10, .ptr 3 0), (3, .ptr 1 0), (2, .ptr 0 0)], [(0, .box 53 [.int .i64 w, .int .i64 h, .ro (.bools q)]), (1, .box 55 [.int .i64 least, .int .i64 gx, .int .i64 gy, .int .i64 line, .int .i64 word]), (2, .row 76 (bks ((L.take k).map (layBk q w line word)))), (3, .box 145 [.int .i64 w, .int .i64 h, .ro (.bools q), .cell [.int .i64 w, .int .i64 h, .ro (.ints .i64 SL)], .int .i64 0, .int .i64 0, .nilS]), (4, .row 79 (lns ((R.take j).map (layLn q w word)))), (5, .box 76 [.int .i64 bx, .int .i64 by', .int .i64 bw, .int .i64 bh, .own 4])], 6⟩) (fun j => j ≤ R.length) (fun j => R.length - j) 0 ?_ (Nat.zero_le _) fun j hj => ?_
    · refine Ent.trans (Ent.nilBox (P := Tryz.prog) 5 4 79 e79 rfl rfl) (Ent.auto0 rfl ?_ ?_) <;> simp only [go_sem, reduceCtorEq, reduceIte, Nat.reduceEqDiff, Nat.reduceLT, Nat.reduceLeDiff, Int.natCast_succ, zrow, put, List.set_cons_zero, List.set_cons_succ, Nat.zero_mul, List.range_zero, List.map_nil, List.replicate_zero, List.take_zero]
    by_cases hjl : j < R.length
    · have hel := nb_elem R hjl
      have hml : R.getD j Nb.zero ∈ R := by rw [getD_lt hjl]; exact List.getElem_mem hjl
      have htl : ((R.take (j + 1)).map (layLn q w word)).map Ln.av = ((R.take j).map (layLn q w word)).map Ln.av ++ [(layLn q w word (R.getD j Nb.zero)).av] := by
        rw [List.take_succ_eq_append_getElem hjl, getD_lt hjl, List.map_append, List.map_append]; rfl
      have hpl := hRp _ hml
      have hil2 := hRi _ hml
      generalize R.getD j Nb.zero = l at *
      have hil : InP l w h := hib.of hpl
      have hlw := ink_w q w hil2
      have hlh := ink_h q w hil2
      have kG := gap_ok q w h (by omega) (by omega) 0 0 l hil
      obtain ⟨g0, hg0, hg1, hg2⟩ := gapV_bd q w l (by unfold InP at hil; omega)
      have hlg : layLn q w word l = ⟨l, lowOf (bots (cutP q w l) l.w l.h) + l.y, (linesC q w l (if word = 0 then g0 else word)).map (wordBox q w l)⟩ := by
        unfold layLn lineWords lineGap; rw [hg0, Int.toNat_natCast]
      rw [hg0] at kG
      have kBs := base_ok w h hw1 (by omega) hh1 (by omega) q hql l hil hlw hlh
      rw [if_neg (by omega), if_neg (by omega)] at kBs
      have kW0 := words_ok q w h (by omega) (by omega) 0 0 l hil g0 hg1 hg2
      have kW1 := fun h0 : ¬ word = 0 => words_ok q w h (by omega) (by omega) 0 0 l hil word (by omega) hwd
      rw [hlg] at htl
      generalize lowOf (bots (cutP q w l) l.w l.h) = bs at *
      have hll : (R.take j).length = j := by rw [List.length_take]; omega
      obtain ⟨lx, ly, lw, lh⟩ := l
      simp only [ctr, Nb.av, Int.natCast_zero] at kG kBs kW0 kW1
      rw [hSL] at kG kW0 kW1
      dsimp only at hel
      rw [show ∀ b s W, (⟨b, s, W⟩ : Ln).av = [.int .i64 b.x, .int .i64 b.y, .int .i64 b.w, .int .i64 b.h, .int .i64 s, .ro (nbs W)] from fun _ _ _ => rfl] at htl
      dsimp only at htl
      by_cases hw0 : word = 0
      · rw [if_pos hw0] at htl
        generalize (linesC q w ⟨lx, ly, lw, lh⟩ g0).map (wordBox q w ⟨lx, ly, lw, lh⟩) = W at *
        refine VcRun.of ?_
        (repeat' first | with_reducible (first | intro _ | refine rc ?_ | refine rl ?_ | refine rh ?_ | refine rt ?_ | refine rf ?_ | refine rs ?_ | refine And.intro ?_ ?_) | omega | simp (maxSteps := 1000000) only [go_sem, simprocAttr, ↓reduceIte, List.length_map, elemA, hel])
        refine VcCall.fr (FnFr.of_ok kG rfl rfl) (by simp [argOkL, argOk, allOk, argOkN, lk, noIdR_ok, nbs, nilRow]; exact ⟨_, _, ⟨rfl, rfl⟩, by simp [allOk, argOkN, noIdR_ok, nilRow]⟩) 0 rfl (by simp [rowsB]) ?_
        (repeat' first | with_reducible (first | intro _ | refine rc ?_ | refine rl ?_ | refine rh ?_ | refine rt ?_ | refine rf ?_ | refine rs ?_ | refine And.intro ?_ ?_) | omega | simp (maxSteps := 1000000) only [go_sem, simprocAttr, ↓reduceIte])
        refine VcCall.k kBs ?_
        (repeat' first | with_reducible (first | intro _ | refine rc ?_ | refine rl ?_ | refine rh ?_ | refine rt ?_ | refine rf ?_ | refine rs ?_ | refine And.intro ?_ ?_) | omega | simp (maxSteps := 1000000) only [go_sem, simprocAttr, ↓reduceIte])
        refine VcDraw.lex [9, 10, 12] [(0, [1]), (1, [1])] (by kernel_rfl) (by kernel_rfl) ?_
        (repeat' first | with_reducible (first | intro _ | refine rc ?_ | refine rl ?_ | refine rh ?_ | refine rt ?_ | refine rf ?_ | refine rs ?_ | refine And.intro ?_ ?_) | omega | simp (maxSteps := 1000000) only [go_sem, simprocAttr, ↓reduceIte])
        refine QV.intro (.ro (nbs W)) ?_ ?_
        · (repeat' first | with_reducible (first | intro _ | refine rc ?_ | refine rl ?_ | refine rh ?_ | refine rt ?_ | refine rf ?_ | refine rs ?_ | refine And.intro ?_ ?_) | omega | simp (maxSteps := 1000000) only [go_sem, simprocAttr, ↓reduceIte])
          refine VcCall.ro (.ro (nbs W)) (FnFr.of_ok kW0 rfl (by simp [noRoRows, noRoItem, noRoRow, nbs, Nb.av, noRoL, noRo])) (by simp [argOkL, argOk, allOk, argOkN, lk, noIdR_ok, nbs, nilRow]; exact ⟨_, _, ⟨rfl, rfl⟩, by simp [allOk, argOkN, noIdR_ok, nilRow]⟩) (by simp [outOk, argOkL, allOk, argOk, argOkN, lk, noIdR_ok, nbs]) rfl ?_
          (repeat' first | with_reducible (first | intro _ | refine rc ?_ | refine rl ?_ | refine rh ?_ | refine rt ?_ | refine rf ?_ | refine rs ?_ | refine And.intro ?_ ?_) | omega | simp (maxSteps := 1000000) only [go_sem, simprocAttr, ↓reduceIte])
        (repeat' first | with_reducible (first | intro _ | refine rc ?_ | refine rl ?_ | refine rh ?_ | refine rt ?_ | refine rf ?_ | refine rs ?_ | refine And.intro ?_ ?_) | omega | simp (maxSteps := 1000000) only [go_sem, simprocAttr, ↓reduceIte, List.length_map])
        refine ⟨j + 1, Ent.auto0 rfl ?_ ?_, by omega, by omega⟩ <;> simp only [go_sem, reduceCtorEq, reduceIte, Nat.reduceEqDiff, Nat.reduceLT, Nat.reduceLeDiff, Int.natCast_succ, htl]
      · rw [if_neg hw0] at htl
        have kW1 := kW1 hw0
        generalize (linesC q w ⟨lx, ly, lw, lh⟩ word).map (wordBox q w ⟨lx, ly, lw, lh⟩) = W at *
        refine VcRun.of ?_
        (repeat' first | with_reducible (first | intro _ | refine rc ?_ | refine rl ?_ | refine rh ?_ | refine rt ?_ | refine rf ?_ | refine rs ?_ | refine And.intro ?_ ?_) | omega | simp (maxSteps := 1000000) only [go_sem, simprocAttr, ↓reduceIte, List.length_map, elemA, hel])
        refine VcCall.k kBs ?_
        (repeat' first | with_reducible (first | intro _ | refine rc ?_ | refine rl ?_ | refine rh ?_ | refine rt ?_ | refine rf ?_ | refine rs ?_ | refine And.intro ?_ ?_) | omega | simp (maxSteps := 1000000) only [go_sem, simprocAttr, ↓reduceIte])
        refine VcDraw.lex [9, 10, 12] [(0, [1]), (1, [1])] (by kernel_rfl) (by kernel_rfl) ?_
        (repeat' first | with_reducible (first | intro _ | refine rc ?_ | refine rl ?_ | refine rh ?_ | refine rt ?_ | refine rf ?_ | refine rs ?_ | refine And.intro ?_ ?_) | omega | simp (maxSteps := 1000000) only [go_sem, simprocAttr, ↓reduceIte])
        refine QV.intro (.ro (nbs W)) ?_ ?_
        · (repeat' first | with_reducible (first | intro _ | refine rc ?_ | refine rl ?_ | refine rh ?_ | refine rt ?_ | refine rf ?_ | refine rs ?_ | refine And.intro ?_ ?_) | omega | simp (maxSteps := 1000000) only [go_sem, simprocAttr, ↓reduceIte])
          refine VcCall.ro (.ro (nbs W)) (FnFr.of_ok kW1 rfl (by simp [noRoRows, noRoItem, noRoRow, nbs, Nb.av, noRoL, noRo])) (by simp [argOkL, argOk, allOk, argOkN, lk, noIdR_ok, nbs, nilRow]; exact ⟨_, _, ⟨rfl, rfl⟩, by simp [allOk, argOkN, noIdR_ok, nilRow]⟩) (by simp [outOk, argOkL, allOk, argOk, argOkN, lk, noIdR_ok, nbs]) rfl ?_
          (repeat' first | with_reducible (first | intro _ | refine rc ?_ | refine rl ?_ | refine rh ?_ | refine rt ?_ | refine rf ?_ | refine rs ?_ | refine And.intro ?_ ?_) | omega | simp (maxSteps := 1000000) only [go_sem, simprocAttr, ↓reduceIte])
        (repeat' first | with_reducible (first | intro _ | refine rc ?_ | refine rl ?_ | refine rh ?_ | refine rt ?_ | refine rf ?_ | refine rs ?_ | refine And.intro ?_ ?_) | omega | simp (maxSteps := 1000000) only [go_sem, simprocAttr, ↓reduceIte, List.length_map])
        refine ⟨j + 1, Ent.auto0 rfl ?_ ?_, by omega, by omega⟩ <;> simp only [go_sem, reduceCtorEq, reduceIte, Nat.reduceEqDiff, Nat.reduceLT, Nat.reduceLeDiff, Int.natCast_succ, htl]
    · have e : j = R.length := by omega
      subst e
      rw [List.take_length]
      refine VcRun.of ?_
      (repeat' first | with_reducible (first | intro _ | refine rc ?_ | refine rl ?_ | refine rh ?_ | refine rt ?_ | refine rf ?_ | refine rs ?_ | refine And.intro ?_ ?_) | omega | simp (maxSteps := 1000000) only [go_sem, simprocAttr, ↓reduceIte])
      refine ⟨k + 1, Ent.auto0 rfl ?_ ?_, by omega, by omega⟩ <;> simp only [go_sem, reduceCtorEq, reduceIte, Nat.reduceEqDiff, Nat.reduceLT, Nat.reduceLeDiff, Int.natCast_succ, hts]
  · have e : k = L.length := by omega
    subst e
    rw [List.take_length]
    (repeat' first | with_reducible (first | intro _ | refine rc ?_ | refine rl ?_ | refine rh ?_ | refine rt ?_ | refine rf ?_ | refine rs ?_ | refine And.intro ?_ ?_) | omega | simp (maxSteps := 1000000) only [go_sem, simprocAttr, ↓reduceIte])
    refine Ret.auto 1 ?_ rfl ?_ <;> simp only [go_sem, reduceCtorEq, reduceIte, Nat.reduceEqDiff, Nat.reduceLT, Nat.reduceLeDiff, Int.natCast_succ, Post]
end Go.Fv.U

/-! Layout with ways out of range; Flat: the walk. -/
namespace Go.Fv.U
open Go Go.Proofs
set_option linter.unusedSimpArgs false
set_option linter.unusedVariables false
set_option linter.unnecessarySimpa false
set_option maxRecDepth 8000

/-- The ways of Layout are in their ranges. -/
def WaysIn (least gx gy line word : Int) : Prop := (1 ≤ least ∧ least ≤ 1048576) ∧ (1 ≤ gx ∧ gx ≤ 4000) ∧ (1 ≤ gy ∧ gy ≤ 4000) ∧ (1 ≤ line ∧ line ≤ 4000) ∧ 0 ≤ word ∧ word ≤ 4000
instance (least gx gy line word : Int) : Decidable (WaysIn least gx gy line word) := inferInstanceAs (Decidable (_ ∧ _))
set_option maxHeartbeats 4000000 in
theorem layoutE_ok (w h : Nat) (hw1 : 1 ≤ w) (hw : w ≤ 32) (hh1 : 1 ≤ h) (hh : h ≤ 32) (p : List Bool) (hp : p.length = w * h) (least gx gy line word : Int) (hn : ¬ WaysIn least gx gy line word) :
    FnOk Tryz.prog 18 [.agg [.int .i64 w, .int .i64 h, .ro (.bools p)], .agg [.int .i64 least, .int .i64 gx, .int .i64 gy, .int .i64 line, .int .i64 word]] (.tup [.own 0, .int .i64 3]) [(0, .row 76 (bks []))] := by
  have kC := checkBits_ok w h p
  have kB := badGap_ok [gx, gy, line] (by show 3 ≤ 1000; decide)
  rw [grayErr_ok hw1 (by omega) hh1 (by omega) hp] at kC
  unfold WaysIn at hn
  by_cases h1 : least < 1 ∨ 1048576 < least
  · have hd1 : decide (¬ (least < 1 ∨ 1048576 < least)) = false := decide_eq_false (by omega)
    refine FnOk.of_vc Tryz.func18 rfl (by decide) (by simp [Tryz.f18]) [.tmp 4, .tmp 5] rfl fun w0 T0 _ => ?_
    simp only [Tryz.f18, argEnv]
    (repeat' first | with_reducible (first | intro _ | refine rc ?_ | refine rl ?_ | refine rh ?_ | refine rt ?_ | refine rf ?_ | refine rs ?_ | refine And.intro ?_ ?_) | omega | simp (maxSteps := 1000000) only [go_sem, simprocAttr, ↓reduceIte])
    refine VcCall.k (kC) ?_
    (repeat' first | with_reducible (first | intro _ | refine rc ?_ | refine rl ?_ | refine rh ?_ | refine rt ?_ | refine rf ?_ | refine rs ?_ | refine And.intro ?_ ?_) | omega | simp (maxSteps := 1000000) only [go_sem, simprocAttr, ↓reduceIte, hd1, cond_false])
    refine Ret.auto 1 ?_ rfl ?_ <;> simp only [go_sem, reduceCtorEq, reduceIte, Nat.reduceEqDiff, Nat.reduceLT, Nat.reduceLeDiff, Int.natCast_succ, Post, List.map_nil]
  · have hd1 : decide (¬ (least < 1 ∨ 1048576 < least)) = true := decide_eq_true (by omega)
    cases hg : [gx, gy, line].any gapBad with
    | true =>
      rw [hg] at kB
      refine FnOk.of_vc Tryz.func18 rfl (by decide) (by simp [Tryz.f18]) [.tmp 4, .tmp 5] rfl fun w0 T0 _ => ?_
      simp only [Tryz.f18, argEnv]
      (repeat' first | with_reducible (first | intro _ | refine rc ?_ | refine rl ?_ | refine rh ?_ | refine rt ?_ | refine rf ?_ | refine rs ?_ | refine And.intro ?_ ?_) | omega | simp (maxSteps := 1000000) only [go_sem, simprocAttr, ↓reduceIte])
      refine VcCall.k (kC) ?_
      (repeat' first | with_reducible (first | intro _ | refine rc ?_ | refine rl ?_ | refine rh ?_ | refine rt ?_ | refine rf ?_ | refine rs ?_ | refine And.intro ?_ ?_) | omega | simp (maxSteps := 1000000) only [go_sem, simprocAttr, ↓reduceIte, hd1, cond_true])
      refine VcCall.k (kB) ?_
      (repeat' first | with_reducible (first | intro _ | refine rc ?_ | refine rl ?_ | refine rh ?_ | refine rt ?_ | refine rf ?_ | refine rs ?_ | refine And.intro ?_ ?_) | omega | simp (maxSteps := 1000000) only [go_sem, simprocAttr, ↓reduceIte])
      refine Ret.auto 1 ?_ rfl ?_ <;> simp only [go_sem, reduceCtorEq, reduceIte, Nat.reduceEqDiff, Nat.reduceLT, Nat.reduceLeDiff, Int.natCast_succ, Post, List.map_nil]
    | false =>
      rw [hg] at kB
      have hw2 : word < 0 ∨ 4000 < word := by
        simp only [List.any_cons, List.any_nil, Bool.or_false, Bool.or_eq_false_iff, gapBad, decide_eq_false_iff_not] at hg
        omega
      refine FnOk.of_vc Tryz.func18 rfl (by decide) (by simp [Tryz.f18]) [.tmp 4, .tmp 5] rfl fun w0 T0 _ => ?_
      simp only [Tryz.f18, argEnv]
      (repeat' first | with_reducible (first | intro _ | refine rc ?_ | refine rl ?_ | refine rh ?_ | refine rt ?_ | refine rf ?_ | refine rs ?_ | refine And.intro ?_ ?_) | omega | simp (maxSteps := 1000000) only [go_sem, simprocAttr, ↓reduceIte])
      refine VcCall.k (kC) ?_
      (repeat' first | with_reducible (first | intro _ | refine rc ?_ | refine rl ?_ | refine rh ?_ | refine rt ?_ | refine rf ?_ | refine rs ?_ | refine And.intro ?_ ?_) | omega | simp (maxSteps := 1000000) only [go_sem, simprocAttr, ↓reduceIte, hd1, cond_true])
      refine VcCall.k (kB) ?_
      (repeat' first | with_reducible (first | intro _ | refine rc ?_ | refine rl ?_ | refine rh ?_ | refine rt ?_ | refine rf ?_ | refine rs ?_ | refine And.intro ?_ ?_) | omega | simp (maxSteps := 1000000) only [go_sem, simprocAttr, ↓reduceIte])
      refine Ret.auto 1 ?_ rfl ?_ <;> simp only [go_sem, reduceCtorEq, reduceIte, Nat.reduceEqDiff, Nat.reduceLT, Nat.reduceLeDiff, Int.natCast_succ, Post, List.map_nil]
theorem flatB_len_take (l : List Bk) (k : Nat) : (flatB (l.take k)).length ≤ (flatB l).length := by
  have : flatB l = flatB (l.take k) ++ flatB (l.drop k) := by
    unfold flatB; rw [← List.flatMap_append, List.take_append_drop]
  rw [this, List.length_append]; omega
theorem flatB_succ {l : List Bk} {k : Nat} (h : k < l.length) : flatB (l.take (k + 1)) = flatB (l.take k) ++ (l.getD k Bk.zero).ls.flatMap Ln.ws := by
  rw [List.take_succ_eq_append_getElem h, getD_lt h]
  unfold flatB; rw [List.flatMap_append]; simp
theorem ws_succ {l : List Ln} {k : Nat} (h : k < l.length) : (l.take (k + 1)).flatMap Ln.ws = (l.take k).flatMap Ln.ws ++ (l.getD k Ln.zero).ws := by
  rw [List.take_succ_eq_append_getElem h, getD_lt h, List.flatMap_append]; simp
theorem ws_len_take (l : List Ln) (k : Nat) : ((l.take k).flatMap Ln.ws).length ≤ (l.flatMap Ln.ws).length := by
  have : l.flatMap Ln.ws = (l.take k).flatMap Ln.ws ++ (l.drop k).flatMap Ln.ws := by rw [← List.flatMap_append, List.take_append_drop]
  rw [this, List.length_append]; omega
set_option maxHeartbeats 4000000 in
theorem flat_ok (l : List Bk) (hl : (flatB l).length ≤ 5000) : FnOk Tryz.prog 23 [.ro (bks l)] (.own 0) [(0, .row 65 (nbs (flatB l)))] := by
  refine FnOk.of_vc Tryz.func23 rfl (by decide) (by simp [Tryz.f23]) [.tmp 2] rfl fun w0 T0 _ => ?_
  simp only [Tryz.f23, argEnv]
  (repeat' first | with_reducible (first | intro _ | refine rc ?_ | refine rl ?_ | refine rh ?_ | refine rt ?_ | refine rf ?_ | refine rs ?_ | refine And.intro ?_ ?_) | omega | simp (maxSteps := 1000000) only [go_sem, simprocAttr, ↓reduceIte, List.length_map])
  refine VcLoop.intro (fun k : Nat => ⟨28, [(10, .int .i64 k), (9, .int .i64 l.length), (8, .ro (bks l)), (3, .own 0)], [(0, .row 65 (nbs (flatB (l.take k))))], 1⟩) (fun k => k ≤ l.length) (fun k => l.length - k) 0 ?_ (Nat.zero_le _) fun k hk => ?_
  · refine Ent.auto0 rfl ?_ ?_ <;> simp only [go_sem, reduceCtorEq, reduceIte, Nat.reduceEqDiff, Nat.reduceLT, Nat.reduceLeDiff, Int.natCast_succ, List.take_zero, flatB, List.flatMap_nil, nbs, List.map_nil]
  by_cases hlt : k < l.length
  · have he := bk_elem l hlt
    have hs := flatB_succ hlt
    have hbd := flatB_len_take l (k + 1)
    rw [hs, List.length_append] at hbd
    generalize flatB (l.take k) = D at *
    generalize l.getD k Bk.zero = b at *
    obtain ⟨⟨bx, by', bw, bh⟩, R⟩ := b
    dsimp only at he hs hbd
    (repeat' first | with_reducible (first | intro _ | refine rc ?_ | refine rl ?_ | refine rh ?_ | refine rt ?_ | refine rf ?_ | refine rs ?_ | refine And.intro ?_ ?_) | omega | simp (maxSteps := 1000000) only [go_sem, simprocAttr, ↓reduceIte, List.length_map, elemA, he])
    refine VcLoop.intro (fun j : Nat => ⟨28, [(17, .int .i64 j), (16, .int .i64 R.length), (15, .ro (lns R)), (3, .own 0), (10, .int .i64 k), (9, .int .i64 l.length), (8, .ro (bks l))], [(0, .row 65 (nbs (D ++ (R.take j).flatMap Ln.ws)))], 1⟩) (fun j => j ≤ R.length) (fun j => R.length - j) 0 ?_ (Nat.zero_le _) fun j hj => ?_
    · refine Ent.auto0 rfl ?_ ?_ <;> simp only [go_sem, reduceCtorEq, reduceIte, Nat.reduceEqDiff, Nat.reduceLT, Nat.reduceLeDiff, Int.natCast_succ, List.take_zero, List.flatMap_nil, List.append_nil, nbs]
    by_cases hjl : j < R.length
    · have hel := ln_elem R hjl
      have hsl := ws_succ hjl
      have hbl := ws_len_take R (j + 1)
      rw [hsl, List.length_append] at hbl
      have hdl : (D ++ (R.take j).flatMap Ln.ws).length ≤ 5000 := by rw [List.length_append]; omega
      have hsa : (D ++ (R.take (j + 1)).flatMap Ln.ws).map Nb.av = (D ++ (R.take j).flatMap Ln.ws).map Nb.av ++ (R.getD j Ln.zero).ws.map Nb.av := by rw [hsl, ← List.append_assoc, List.map_append]
      generalize D ++ (R.take j).flatMap Ln.ws = E at *
      generalize R.getD j Ln.zero = x at *
      obtain ⟨⟨lx, ly, lw, lh⟩, s, W⟩ := x
      dsimp only at hel hsa hbl
      (repeat' first | with_reducible (first | intro _ | refine rc ?_ | refine rl ?_ | refine rh ?_ | refine rt ?_ | refine rf ?_ | refine rs ?_ | refine And.intro ?_ ?_) | omega | simp (maxSteps := 1000000) only [go_sem, simprocAttr, ↓reduceIte, List.length_map, elemA, hel, nbs])
      refine ⟨j + 1, Ent.auto0 rfl ?_ ?_, by omega, by omega⟩ <;> simp only [go_sem, reduceCtorEq, reduceIte, Nat.reduceEqDiff, Nat.reduceLT, Nat.reduceLeDiff, Int.natCast_succ, nbs, hsa]
    · have e : j = R.length := by omega
      subst e
      rw [List.take_length]
      (repeat' first | with_reducible (first | intro _ | refine rc ?_ | refine rl ?_ | refine rh ?_ | refine rt ?_ | refine rf ?_ | refine rs ?_ | refine And.intro ?_ ?_) | omega | simp (maxSteps := 1000000) only [go_sem, simprocAttr, ↓reduceIte])
      refine ⟨k + 1, Ent.auto0 rfl ?_ ?_, by omega, by omega⟩ <;> simp only [go_sem, reduceCtorEq, reduceIte, Nat.reduceEqDiff, Nat.reduceLT, Nat.reduceLeDiff, Int.natCast_succ, hs, nbs]
  · have e : k = l.length := by omega
    subst e
    rw [List.take_length]
    (repeat' first | with_reducible (first | intro _ | refine rc ?_ | refine rl ?_ | refine rh ?_ | refine rt ?_ | refine rf ?_ | refine rs ?_ | refine And.intro ?_ ?_) | omega | simp (maxSteps := 1000000) only [go_sem, simprocAttr, ↓reduceIte])
    refine Ret.auto 1 ?_ rfl ?_ <;> simp only [go_sem, reduceCtorEq, reduceIte, Nat.reduceEqDiff, Nat.reduceLT, Nat.reduceLeDiff, Int.natCast_succ, Post, nbs, renR_ok, belowR_ok]
end Go.Fv.U

/- Pieces are the least closed parts of the ink; a page without its specks has no speck. Plain law. -/
namespace Go.Fv.U
open Go
set_option linter.unusedSimpArgs false
set_option linter.unusedVariables false
set_option maxRecDepth 8000

theorem rng_mem2 : ∀ {n : Nat} {a x : Int}, a ≤ x → x < a + n → x ∈ rng a n
  | 0, a, x, h, h2 => by omega
  | n + 1, a, x, h, h2 => by
    by_cases e : x = a
    · rw [e]; exact List.mem_cons_self
    · exact List.mem_cons_of_mem _ (rng_mem2 (by omega) (by omega))
theorem rng3_mem2 {x w u : Int} (h0 : 0 ≤ u) (h1 : u < w) (h2 : x - 1 ≤ u) (h3 : u ≤ x + 1) : u ∈ rng3 x w := by
  unfold rng3 lo3 hi3
  exact rng_mem2 (by omega) (by omega)
theorem rng3_near {x w u : Int} (h : u ∈ rng3 x w) : x - 1 ≤ u ∧ u ≤ x + 1 := by
  have := rng_mem h
  unfold lo3 hi3 at this
  omega
theorem nodup_le : ∀ (r r' : List Int), r.Nodup → (∀ x, x ∈ r → x ∈ r') → r.length ≤ r'.length
  | [], r', _, _ => Nat.zero_le _
  | x :: t, r', hn, hs => by
    obtain ⟨h1, h2⟩ := List.nodup_cons.1 hn
    have hx := hs x List.mem_cons_self
    have ih := nodup_le t (r'.erase x) h2 fun y hy => (List.mem_erase_of_ne (fun e => h1 (by rw [← e]; exact hy))).2 (hs y (List.mem_cons_of_mem _ hy))
    rw [List.length_erase_of_mem hx] at ih
    have := List.length_pos_of_mem hx
    rw [List.length_cons]
    omega

/-! ### The search by lists of neighbours -/
section
variable (ok : Nat → Bool) (nb : Int → List Int) (n : Nat)
def visL (s : RS) (D : List Int) : RS := D.foldl (fun s d => s.vis ok d.toNat) s
def nbF (s : RS) (c : Int) : RS := visL ok s (nb c)
structure NInv (seen0 : List Bool) (i : Int) (s : RS) : Prop where
  nd : s.l.Nodup
  old : ∀ j : Nat, s.seen.getD j false = true → seen0.getD j false = true ∨ (j : Int) ∈ s.l
  least : ∀ C : Int → Prop, C i → (∀ c d, C c → 0 ≤ c → c < n → ok c.toNat = true → d ∈ nb c → ok d.toNat = true → C d) → ∀ x, x ∈ s.l → C x
variable {ok nb n}
theorem vis_seen (s : RS) {i : Nat} (hi : i < s.seen.length) (h : ok i = true) : (s.vis ok i).seen.getD i false = true := by
  unfold RS.vis
  split
  · rename_i h2
    rcases h2 with h2 | h2
    · exact h2
    · rw [h] at h2; cases h2
  · exact getD_set_at hi
theorem vis_ninv {c0 : Nat} {seen0 : List Bool} {i : Int} {s : RS} (hR : RInv ok n c0 s) (hN : NInv ok nb n seen0 i s) {c d : Int} (hc : c ∈ s.l) (hd : d ∈ nb c) (hd0 : 0 ≤ d ∧ d < n) : NInv ok nb n seen0 i (s.vis ok d.toNat) := by
  unfold RS.vis
  split
  · exact hN
  · rename_i hn
    obtain ⟨h1, h2⟩ := not_seen hn
    have hdl : ((d.toNat : Nat) : Int) = d := by omega
    refine ⟨?_, fun j hj => ?_, fun C h0 hC x hx => ?_⟩
    · dsimp only
      rw [List.nodup_append]
      refine ⟨hN.nd, by simp, fun x hx y hy e => ?_⟩
      rw [List.mem_singleton] at hy
      have := hR.sn x hx
      rw [e, hy, Int.toNat_natCast, h1] at this
      cases this
    · rcases getD_set hj with hj | rfl
      · exact (hN.old j hj).imp id fun h => List.mem_append_left _ h
      · exact .inr (List.mem_append_right _ (by simp))
    · rcases List.mem_append.1 hx with hx | hx
      · exact hN.least C h0 hC x hx
      · rw [List.mem_singleton] at hx
        rw [hx, hdl]
        have hb := hR.bd c hc
        exact hC c d (hN.least C h0 hC c hc) hb.1 hb.2 (hR.ink _ (hR.sn c hc)) hd h2
theorem visL_inv {c0 : Nat} {seen0 : List Bool} {i c : Int} : ∀ (D : List Int) (s : RS), RInv ok n c0 s → NInv ok nb n seen0 i s → c ∈ s.l → (∀ d, d ∈ D → d ∈ nb c ∧ 0 ≤ d ∧ d < n) →
    RInv ok n c0 (visL ok s D) ∧ NInv ok nb n seen0 i (visL ok s D) ∧ RLe s (visL ok s D) ∧ ∀ d, d ∈ D → ok d.toNat = true → (visL ok s D).seen.getD d.toNat false = true
  | [], s, hR, hN, _, _ => ⟨hR, hN, RLe.refl s, fun d hd => (by cases hd)⟩
  | d :: D, s, hR, hN, hc, hD => by
    obtain ⟨d1, d2, d3⟩ := hD d List.mem_cons_self
    obtain ⟨r1, r2⟩ := RS.vis_inv hR (i := d.toNat) (by omega)
    have n1 := vis_ninv hR hN hc d1 ⟨d2, d3⟩
    have hc' : c ∈ (s.vis ok d.toNat).l := by
      obtain ⟨r, hr⟩ := r2.pre
      rw [hr]; exact List.mem_append_left _ hc
    obtain ⟨a1, a2, a3, a4⟩ := visL_inv D (s.vis ok d.toNat) r1 n1 hc' fun e he => hD e (List.mem_cons_of_mem _ he)
    refine ⟨a1, a2, r2.trans a3, fun e he h => ?_⟩
    rcases List.mem_cons.1 he with rfl | he
    · exact a3.seen _ (vis_seen s (by rw [hR.len]; omega) h)
    · exact a4 e he h
theorem getD_app {l r : List Int} {k : Nat} (h : k < l.length) : (l ++ r).getD k 0 = l.getD k 0 := by
  rw [List.getD_eq_getElem?_getD, List.getElem?_append_left h, ← List.getD_eq_getElem?_getD]
theorem mem_getD {l : List Int} {x : Int} (h : x ∈ l) : ∃ k, k < l.length ∧ l.getD k 0 = x := by
  obtain ⟨k, hk, e⟩ := List.mem_iff_getElem.1 h
  exact ⟨k, hk, by rw [getD_lt hk, e]⟩
theorem bfs_closed (hb : ∀ c, 0 ≤ c → c < (n : Int) → ∀ d, d ∈ nb c → 0 ≤ d ∧ d < (n : Int)) {c0 : Nat} {seen0 : List Bool} {i : Int} : ∀ (m k : Nat) (s : RS), n ≤ k + m → RInv ok n c0 s → NInv ok nb n seen0 i s →
    (∀ a, a < k → a < s.l.length → ∀ d, d ∈ nb (s.l.getD a 0) → ok d.toNat = true → s.seen.getD d.toNat false = true) →
    NInv ok nb n seen0 i (bfs (nbF ok nb) m k s) ∧ ∀ c, c ∈ (bfs (nbF ok nb) m k s).l → ∀ d, d ∈ nb c → ok d.toNat = true → (bfs (nbF ok nb) m k s).seen.getD d.toNat false = true
  | 0, k, s, hk, hR, hN, hD => by
    refine ⟨hN, fun c hc d hd h => ?_⟩
    obtain ⟨a, ha, rfl⟩ := mem_getD hc
    have := hR.le
    have ha' : a < s.l.length := ha
    exact hD a (by omega) ha' d hd h
  | m + 1, k, s, hk, hR, hN, hD => by
    simp only [bfs]
    split
    · rename_i hlt
      have hm := getD_mem hlt
      obtain ⟨b1, b2⟩ := hR.bd _ hm
      obtain ⟨a1, a2, a3, a4⟩ := visL_inv (nb (s.l.getD k 0)) s hR hN hm fun d hd => ⟨hd, hb _ b1 b2 d hd⟩
      refine bfs_closed hb m (k + 1) _ (by omega) a1 a2 fun a ha hal d hd h => ?_
      have hpre := a3.pre
      obtain ⟨r, hr⟩ := hpre
      have hr' : (nbF ok nb s (s.l.getD k 0)).l = s.l ++ r := hr
      have hae : (nbF ok nb s (s.l.getD k 0)).l.getD a 0 = s.l.getD a 0 := by rw [hr', getD_app (by omega)]
      rw [hae] at hd
      by_cases e : a = k
      · subst e; exact a4 d hd h
      · exact a3.seen _ (hD a (by omega) (by omega) d hd h)
    · rename_i hlt
      refine ⟨hN, fun c hc d hd h => ?_⟩
      obtain ⟨a, ha, rfl⟩ := mem_getD hc
      exact hD a (by omega) ha d hd h

/-! ### Regions -/
variable (ok nb n)
structure Comp (r : List Int) : Prop where
  nd : r.Nodup
  bd : ∀ x, x ∈ r → 0 ≤ x ∧ x < (n : Int)
  ink : ∀ x, x ∈ r → ok x.toNat = true
  cl : ∀ c, c ∈ r → ∀ d, d ∈ nb c → ok d.toNat = true → d ∈ r
  least : ∃ i, i ∈ r ∧ ∀ C : Int → Prop, C i → (∀ c d, C c → 0 ≤ c → c < n → ok c.toNat = true → d ∈ nb c → ok d.toNat = true → C d) → ∀ x, x ∈ r → C x
structure NbOk : Prop where
  bd : ∀ c, 0 ≤ c → c < (n : Int) → ∀ d, d ∈ nb c → 0 ≤ d ∧ d < (n : Int)
  sym : ∀ c, 0 ≤ c → c < (n : Int) → ∀ d, d ∈ nb c → c ∈ nb d
variable {ok nb n}
theorem NbOk.step (h : NbOk nb n) : StepOk ok n (nbF ok nb) := fun c0 s c hR h0 h1 => by
  unfold nbF visL
  refine fold_inv (P := RInv ok n c0) (R := RLe) RLe.refl (fun _ _ _ h h' => h.trans h') (nb c) s hR fun s d hs hd => ?_
  have := h.bd c h0 h1 d hd
  exact RS.vis_inv hs (by omega)
theorem regs_comp (hb : NbOk nb n) : ∀ (m i : Nat) (seen : List Bool), SInv ok n i seen → i + m = n → (∀ c : Nat, seen.getD c false = true → ∀ d, d ∈ nb c → ok d.toNat = true → seen.getD d.toNat false = true) →
    (∀ r, r ∈ regs ok (nbF ok nb) n m i seen → Comp ok nb n r) ∧ ∀ j : Nat, j < n → ok j = true → seen.getD j false = false → ∃ r, r ∈ regs ok (nbF ok nb) n m i seen ∧ (j : Int) ∈ r
  | 0, i, seen, hS, hm, hC => by
    refine ⟨fun r hr => (by cases hr), fun j hj ho hs => ?_⟩
    have := hS.all j (by omega) ho
    rw [this] at hs; cases hs
  | m + 1, i, seen, hS, hm, hC => by
    simp only [regs]
    split
    · rename_i hn
      exact regs_comp hb m (i + 1) seen (hS.skip hn) (by omega) hC
    · rename_i hn
      have hst := hS.start (by omega) hn
      obtain ⟨h1, h2, h3⟩ := hS.region hb.step (by omega) hn n
      obtain ⟨g1, g2⟩ := bfs_inv hb.step n 0 _ hst
      obtain ⟨hs0, hp0⟩ := not_seen hn
      have hl0 : i < seen.length := by rw [hS.len]; omega
      have hN0 : NInv ok nb n seen (i : Int) ⟨seen.set i true, [(i : Int)]⟩ := by
        refine ⟨by simp, fun j hj => ?_, fun C hC0 _ x hx => ?_⟩
        · rcases getD_set hj with hj | rfl
          · exact .inl hj
          · exact .inr (by simp)
        · rw [List.mem_singleton.1 hx]; exact hC0
      obtain ⟨k1, k2⟩ := bfs_closed hb.bd n 0 _ (by omega) hst hN0 fun a ha => by omega
      generalize bfs (nbF ok nb) n 0 ⟨seen.set i true, [(i : Int)]⟩ = s at *
      have hnew : ∀ x, x ∈ s.l → seen.getD x.toNat false = false := fun x hx => by
        rcases g2.new x hx with h | h
        · rw [List.mem_singleton.1 h, Int.toNat_natCast]; exact hs0
        · cases hq : seen.getD x.toNat false with
          | false => rfl
          | true => rw [getD_set_mono hl0 hq] at h; cases h
      have hcl : ∀ c, c ∈ s.l → ∀ d, d ∈ nb c → ok d.toNat = true → d ∈ s.l := fun c hc d hd h => by
        obtain ⟨c1, c2⟩ := g1.bd c hc
        have hdb := hb.bd c c1 c2 d hd
        have hdn : ((d.toNat : Nat) : Int) = d := by omega
        rcases k1.old d.toNat (k2 c hc d hd h) with h' | h'
        · have h3 := hC d.toNat h' c (by rw [hdn]; exact hb.sym c c1 c2 d hd) (g1.ink _ (g1.sn c hc))
          rw [hnew c hc] at h3; cases h3
        · rwa [hdn] at h'
      have hmono : ∀ j, seen.getD j false = true → s.seen.getD j false = true := fun j hj => g2.seen j (getD_set_mono hl0 hj)
      obtain ⟨i1, i2⟩ := regs_comp hb m (i + 1) s.seen h1 (by omega) fun c hc d hd h => by
        rcases k1.old c hc with hc | hc
        · exact hmono _ (hC c hc d hd h)
        · exact k2 _ hc d hd h
      refine ⟨fun r hr => ?_, fun j hj ho hs => ?_⟩
      · rcases List.mem_cons.1 hr with rfl | hr
        · obtain ⟨t, ht⟩ := h2.hd
          exact ⟨k1.nd, g1.bd, fun x hx => g1.ink _ (g1.sn x hx), hcl, i, by rw [ht]; exact List.mem_cons_self, k1.least⟩
        · exact i1 r hr
      · cases hq : s.seen.getD j false with
        | false =>
          obtain ⟨r, hr, hj⟩ := i2 j hj ho hq
          exact ⟨r, List.mem_cons_of_mem _ hr, hj⟩
        | true =>
          rcases k1.old j hq with h | h
          · rw [hs] at h; cases h
          · exact ⟨s.l, List.mem_cons_self, h⟩
/-- A closed set that meets a region holds it. -/
theorem Comp.sub (hb : NbOk nb n) {r : List Int} (h : Comp ok nb n r) {C : Int → Prop} (hC : ∀ c d, C c → 0 ≤ c → c < n → ok c.toNat = true → d ∈ nb c → ok d.toNat = true → C d) {x : Int} (hx : x ∈ r) (hCx : C x) : ∀ y, y ∈ r → C y := by
  obtain ⟨i, hi, hl⟩ := h.least
  refine hl C (Classical.byContradiction fun hn => ?_) hC
  refine hl (fun y => ¬ C y) hn (fun c d hc c0 c1 hco hd hdo hCd => hc ?_) x hx hCx
  have hdb := hb.bd c c0 c1 d hd
  exact hC d c hCd hdb.1 hdb.2 hdo (hb.sym c c0 c1 d hd) hco
end

/-! ### Pixels of a page -/
def nbP (w h : Nat) (cor : Bool) (c : Int) : List Int := (rng3 (c / w) h).flatMap fun v => ((rng3 (c % w) w).filter fun u => !decide (cor = false ∧ u ≠ c % w ∧ v ≠ c / w)).map fun u => v * w + u
theorem pix_nb (g : Pg2) : pix g = nbF g.ok (nbP g.w g.h g.cor) := by
  funext s c
  unfold pix nbF visL nbP
  rw [List.foldl_flatMap]
  congr 1
  funext s v
  rw [List.foldl_map, List.foldl_filter]
  unfold RS.row
  congr 1
  funext s u
  unfold RS.pt
  by_cases h : g.cor = false ∧ u ≠ c % g.w ∧ v ≠ c / g.w
  · rw [if_pos h, if_neg (by rw [decide_eq_true h]; decide)]
  · rw [if_neg h, if_pos (by rw [decide_eq_false h]; rfl)]
theorem nbP_mem {w h : Nat} {cor : Bool} {c d : Int} : d ∈ nbP w h cor c ↔ ∃ v, v ∈ rng3 (c / w) h ∧ ∃ u, u ∈ rng3 (c % w) w ∧ ¬ (cor = false ∧ u ≠ c % w ∧ v ≠ c / w) ∧ v * w + u = d := by
  unfold nbP
  simp only [List.mem_flatMap, List.mem_map, List.mem_filter, Bool.not_eq_true', decide_eq_false_iff_not]
  constructor
  · rintro ⟨v, hv, u, ⟨hu, hn⟩, e⟩; exact ⟨v, hv, u, hu, hn, e⟩
  · rintro ⟨v, hv, u, hu, hn, e⟩; exact ⟨v, hv, u, ⟨hu, hn⟩, e⟩
theorem nbP_ok (w h : Nat) (cor : Bool) : NbOk (nbP w h cor) (w * h) where
  bd := fun c h0 h1 d hd => by
    obtain ⟨v, hv, u, hu, _, rfl⟩ := nbP_mem.1 hd
    exact (cell_lt (rng3_mem hu) (rng3_mem hv)).2
  sym := fun c h0 h1 d hd => by
    obtain ⟨v, hv, u, hu, hn, rfl⟩ := nbP_mem.1 hd
    obtain ⟨u0, u1⟩ := rng3_mem hu
    have hv0 := rng3_mem hv
    have hw : (w : Int) ≠ 0 := by omega
    have e1 : (v * w + u) / w = v := by
      rw [Int.add_comm, Int.add_mul_ediv_right _ _ hw, Int.ediv_eq_zero_of_lt u0 u1, Int.zero_add]
    have e2 : (v * w + u) % w = u := by
      rw [Int.add_comm, Int.add_mul_emod_self_right, Int.emod_eq_of_lt u0 u1]
    have hx := xy_bd (g := ⟨[], w, h, true, cor⟩) h0 h1
    obtain ⟨⟨x0, x1⟩, y0, y1⟩ := hx
    dsimp only at x0 x1 y0 y1
    have nu := rng3_near hu
    have nv := rng3_near hv
    refine nbP_mem.2 ⟨c / w, ?_, c % w, ?_, ?_, Int.mul_comm .. ▸ Int.mul_ediv_add_emod c w⟩
    · rw [e1]; exact rng3_mem2 y0 y1 (by omega) (by omega)
    · rw [e2]; exact rng3_mem2 x0 x1 (by omega) (by omega)
    · rw [e1, e2]
      rintro ⟨a, b, c'⟩
      exact hn ⟨a, fun e => b e.symm, fun e => c' e.symm⟩
theorem pieces_comp (g : Pg2) : (∀ r, r ∈ pieces g → Comp g.ok (nbP g.w g.h g.cor) (g.w * g.h) r) ∧ ∀ j : Nat, j < g.w * g.h → g.ok j = true → ∃ r, r ∈ pieces g ∧ (j : Int) ∈ r := by
  have hz : ∀ (n c : Nat), (List.replicate n false).getD c false = false := fun n c => by
    rw [List.getD_eq_getElem?_getD, List.getElem?_replicate]; split <;> rfl
  have h := regs_comp (ok := g.ok) (nbP_ok g.w g.h g.cor) (g.w * g.h) 0 _ (SInv.zero g.ok _) (by omega) fun c hc => by rw [hz] at hc; cases hc
  unfold pieces regsOf
  rw [pix_nb]
  exact ⟨h.1, fun j hj ho => h.2 j hj ho (hz _ _)⟩
theorem chgAll_get (sel : List Int → Bool) : ∀ (R : List (List Int)) (s : CS), (∀ l, l ∈ R → ∀ i, i ∈ l → 0 ≤ i) → ∀ j : Nat, j < s.p.length →
    ((R.foldl (CS.step false sel) s).p.getD j false = true ↔ s.p.getD j false = true ∧ ∀ l, l ∈ R → sel l = true → (j : Int) ∉ l)
  | [], s, _, j, _ => by simp
  | l :: R, s, h, j, hj => by
    rw [List.foldl_cons]
    have hl : (CS.step false sel s l).p.length = s.p.length := by
      unfold CS.step; split
      · exact chg_len _ _ _
      · rfl
    rw [chgAll_get sel R _ (fun x hx => h x (List.mem_cons_of_mem _ hx)) j (by rw [hl]; exact hj)]
    have key : (CS.step false sel s l).p.getD j false = true ↔ s.p.getD j false = true ∧ (sel l = true → (j : Int) ∉ l) := by
      unfold CS.step
      split
      · rename_i hs
        dsimp only
        rw [chg_get false l s.p (h l List.mem_cons_self) j hj]
        by_cases e : (j : Int) ∈ l
        · simp [e, hs]
        · simp [e]
      · rename_i hs
        simp [hs]
    rw [key, and_assoc, List.forall_mem_cons]
/-- A page without its specks has none. -/
theorem no_speck (w h : Nat) (cor : Bool) (p : List Bool) (hp : p.length = w * h) (most : Int) (q : List Bool) (hq : q = (chgAll false (speckB most) p (pieces ⟨p, w, h, true, cor⟩)).p) : ∀ r, r ∈ pieces ⟨q, w, h, true, cor⟩ → most < (r.length : Int) := by
  intro r' hr'
  obtain ⟨cp, vp⟩ := pieces_comp ⟨p, w, h, true, cor⟩
  obtain ⟨cq, _⟩ := pieces_comp ⟨q, w, h, true, cor⟩
  have hc' := cq r' hr'
  dsimp only at cp vp cq hc'
  have okp : ∀ j, (⟨p, w, h, true, cor⟩ : Pg2).ok j = p.getD j false := fun j => by unfold Pg2.ok; dsimp only; cases p.getD j false <;> rfl
  have okq : ∀ j, (⟨q, w, h, true, cor⟩ : Pg2).ok j = q.getD j false := fun j => by unfold Pg2.ok; dsimp only; cases q.getD j false <;> rfl
  have hg : ∀ j : Nat, j < w * h → (q.getD j false = true ↔ p.getD j false = true ∧ ∀ l, l ∈ pieces ⟨p, w, h, true, cor⟩ → speckB most l = true → (j : Int) ∉ l) := fun j hj => by
    rw [hq]
    exact chgAll_get (speckB most) _ ⟨p, 0⟩ (fun l hl i hi => ((cp l hl).bd i hi).1) j (by dsimp only; omega)
  have hnb := nbP_ok w h cor
  obtain ⟨i, hi, _⟩ := hc'.least
  obtain ⟨i0, i1⟩ := hc'.bd i hi
  have hin : ((i.toNat : Nat) : Int) = i := by omega
  have hqi := hc'.ink i hi
  rw [okq] at hqi
  have hgi := (hg i.toNat (by omega)).1 hqi
  obtain ⟨r, hr, hir⟩ := vp i.toNat (by omega) (by rw [okp]; exact hgi.1)
  rw [hin] at hir
  have hns : ¬ speckB most r = true := fun hs => hgi.2 r hr hs (by rw [hin]; exact hir)
  have hc := cp r hr
  have hsub : ∀ y, y ∈ r → y ∈ r' := hc.sub hnb (C := fun y => y ∈ r') (fun c d hcr c0 c1 hco hd hdo => by
    refine hc'.cl c hcr d hd ?_
    obtain ⟨d0, d1⟩ := hnb.bd c c0 c1 d hd
    rw [okq]
    refine (hg d.toNat (by omega)).2 ⟨by rw [← okp]; exact hdo, fun l hl hs hdl => ?_⟩
    rw [show ((d.toNat : Nat) : Int) = d by omega] at hdl
    have hcl := (cp l hl).cl d hdl c (hnb.sym c c0 c1 d hd) hco
    have hqc := hc'.ink c hcr
    rw [okq] at hqc
    exact ((hg c.toNat (by omega)).1 hqc).2 l hl hs (by rw [show ((c.toNat : Nat) : Int) = c by omega]; exact hcl)) hir hi
  have hle := nodup_le r r' hc.nd hsub
  unfold speckB at hns
  have := mt decide_eq_true hns
  omega
end Go.Fv.U

/-! The order of reading: plain law. -/
namespace Go.Fv.U
open Go
set_option linter.unusedSimpArgs false
set_option linter.unusedVariables false

/-! ### The widest stretch that no box has -/
/-- The state: where all that was seen ends; the best stretch (from, many). -/
def gapStep (least : Int) (s : Int × Int × Int) (p : Int × Int) : Int × Int × Int := (max s.1 p.2, if least ≤ p.1 - s.1 ∧ s.2.2 < p.1 - s.1 then (s.1, p.1 - s.1) else s.2)
def gapFold (least : Int) : List (Int × Int) → Int × Int
  | [] => (0, 0)
  | p :: l => (l.foldl (gapStep least) (p.2, 0, 0)).2
/-- A stretch that ends where one begins. -/
def Cand (M : List (Int × Int)) (least : Int) (c : Int × Int) : Prop := ∃ f t, (f, t) ∈ M ∧ (∃ q, q ∈ M ∧ q.1 < f ∧ q.2 = c.1) ∧ (∀ q, q ∈ M → q.1 < f → q.2 ≤ c.1) ∧ c.2 = f - c.1 ∧ least ≤ c.2
def Best (M : List (Int × Int)) (least : Int) (c : Int × Int) : Prop := (c = (0, 0) ∧ ∀ d, ¬ Cand M least d) ∨ (Cand M least c ∧ ∀ d, Cand M least d → d.2 < c.2 ∨ (d.2 = c.2 ∧ c.1 ≤ d.1))
theorem Cand.congr {M M' : List (Int × Int)} (h : ∀ p, p ∈ M ↔ p ∈ M') {least : Int} {c : Int × Int} (hc : Cand M least c) : Cand M' least c := by
  obtain ⟨f, t, h1, ⟨q, h2, h3⟩, h4, h5⟩ := hc
  exact ⟨f, t, (h _).1 h1, ⟨q, (h _).1 h2, h3⟩, fun q hq => h4 q ((h _).2 hq), h5⟩
theorem Best.unique {M M' : List (Int × Int)} (h : ∀ p, p ∈ M ↔ p ∈ M') {least : Int} {c d : Int × Int} (hc : Best M least c) (hd : Best M' least d) : c = d := by
  have h' : ∀ p, p ∈ M' ↔ p ∈ M := fun p => (h p).symm
  rcases hc with ⟨rfl, hc⟩ | ⟨hc, hc2⟩
  · rcases hd with ⟨rfl, _⟩ | ⟨hd, _⟩
    · rfl
    · exact absurd (hd.congr h') (hc _)
  · rcases hd with ⟨rfl, hd⟩ | ⟨hd, hd2⟩
    · exact absurd (hc.congr h) (hd _)
    · have h1 := hc2 d (hd.congr h')
      have h2 := hd2 c (hc.congr h)
      exact Prod.ext (by omega) (by omega)
structure GInv (least : Int) (M : List (Int × Int)) (s : Int × Int × Int) : Prop where
  hi : ∀ q, q ∈ M → q.2 ≤ s.1
  at' : ∃ q, q ∈ M ∧ q.2 = s.1
  best : Best M least s.2
  bd : (s.2 = (0, 0) ∨ s.2.1 ≤ s.1) ∧ 0 ≤ s.2.2
theorem GInv.step {least : Int} (hl : 1 ≤ least) {M : List (Int × Int)} {s : Int × Int × Int} {p : Int × Int} (h : GInv least M s) (hM : ∀ q, q ∈ M → q.1 < q.2) (hp : p.1 < p.2) (hs : ∀ q, q ∈ M → q.1 ≤ p.1) : GInv least (M ++ [p]) (gapStep least s p) := by
  obtain ⟨e, b⟩ := s
  obtain ⟨f, t⟩ := p
  dsimp only at hp hs
  have hhi := h.hi
  obtain ⟨q0, hq0, he0⟩ := h.at'
  have hbest := h.best
  have hbd := h.bd
  dsimp only at hhi he0 hbest hbd
  -- stretches of the longer list
  have old : ∀ c, Cand M least c → Cand (M ++ [(f, t)]) least c := by
    rintro c ⟨f', t', h1, ⟨q, h2, h3⟩, h4, h5⟩
    refine ⟨f', t', by simp [h1], ⟨q, by simp [h2], h3⟩, fun q hq hlt => ?_, h5⟩
    rcases List.mem_append.1 hq with hq | hq
    · exact h4 q hq hlt
    · rw [List.mem_singleton.1 hq] at hlt
      have := hs _ h1
      dsimp only at this hlt; omega
  have new : ∀ c, Cand (M ++ [(f, t)]) least c → Cand M least c ∨ (c = (e, f - e) ∧ least ≤ f - e) := by
    rintro ⟨ce, cg⟩ ⟨f', t', h1, ⟨q, h2, h3, h3'⟩, h4, h5, h6⟩
    dsimp only at h3' h4 h5 h6
    have hqM : f' ≤ f → q ∈ M := fun hle => by
      rcases List.mem_append.1 h2 with h2 | h2
      · exact h2
      · rw [List.mem_singleton.1 h2] at h3; dsimp only at h3; omega
    rcases List.mem_append.1 h1 with h1 | h1
    · exact .inl ⟨f', t', h1, ⟨q, hqM (hs _ h1), h3, h3'⟩, fun q hq => h4 q (by simp [hq]), h5, h6⟩
    · rw [List.mem_singleton] at h1
      obtain ⟨rfl, rfl⟩ := Prod.mk.inj h1
      by_cases heq : ∃ r, r ∈ M ∧ r.1 = f'
      · obtain ⟨r, hr, hrf⟩ := heq
        obtain ⟨rf, rt⟩ := r
        dsimp only at hrf
        subst hrf
        exact .inl ⟨rf, rt, hr, ⟨q, hqM (Int.le_refl _), h3, h3'⟩, fun q hq => h4 q (by simp [hq]), h5, h6⟩
      · have hlt : ∀ r, r ∈ M → r.1 < f' := fun r hr => by
          have := hs r hr
          have : r.1 ≠ f' := fun e => heq ⟨r, hr, e⟩
          omega
        have e1 := h4 q0 (by simp [hq0]) (hlt _ hq0)
        have e2 := hhi q (hqM (Int.le_refl _))
        have : ce = e := by omega
        subst this
        exact .inr ⟨by rw [h5], by omega⟩
  have nw : least ≤ f - e → Cand (M ++ [(f, t)]) least (e, f - e) := fun hle => by
    refine ⟨f, t, by simp, ⟨q0, by simp [hq0], by have := hM q0 hq0; omega, he0⟩, fun q hq hlt => ?_, rfl, hle⟩
    rcases List.mem_append.1 hq with hq | hq
    · exact hhi q hq
    · rw [List.mem_singleton.1 hq] at hlt; dsimp only at hlt; omega
  refine ⟨fun q hq => ?_, ?_, ?_, ?_⟩
  · unfold gapStep; dsimp only
    rcases List.mem_append.1 hq with hq | hq
    · have := hhi q hq; omega
    · rw [List.mem_singleton.1 hq]; dsimp only; omega
  · unfold gapStep; dsimp only
    by_cases hte : e ≤ t
    · exact ⟨(f, t), by simp, by dsimp only; omega⟩
    · exact ⟨q0, by simp [hq0], by omega⟩
  · unfold gapStep
    dsimp only
    split
    · rename_i hc
      refine .inr ⟨nw hc.1, fun d hd => ?_⟩
      rcases new d hd with hd | ⟨rfl, _⟩
      · rcases hbest with ⟨rfl, hb⟩ | ⟨hb, hb2⟩
        · exact absurd hd (hb d)
        · have := hb2 d hd
          dsimp only; omega
      · exact .inr ⟨rfl, Int.le_refl _⟩
    · rename_i hc
      rcases hbest with ⟨rfl, hb⟩ | ⟨hb, hb2⟩
      · refine .inl ⟨rfl, fun d hd => ?_⟩
        rcases new d hd with hd | ⟨rfl, h2⟩
        · exact hb d hd
        · dsimp only at hc; omega
      · refine .inr ⟨old _ hb, fun d hd => ?_⟩
        rcases new d hd with hd | ⟨rfl, h2⟩
        · exact hb2 d hd
        · have h1 : b.1 ≤ e := by
            obtain ⟨_, _, _, ⟨q, h2, _, h3⟩, _⟩ := hb
            have := hhi q h2; omega
          dsimp only
          omega
  · unfold gapStep
    dsimp only
    split
    · rename_i hc
      exact ⟨.inr (by dsimp only; omega), by dsimp only; omega⟩
    · refine ⟨?_, hbd.2⟩
      rcases hbd.1 with h1 | h1
      · exact .inl h1
      · exact .inr (by omega)
theorem gapGo_best {least : Int} (hl : 1 ≤ least) : ∀ (l M : List (Int × Int)) (s : Int × Int × Int), GInv least M s → (∀ q, q ∈ M ++ l → q.1 < q.2) → (M ++ l).Pairwise (fun p q => p.1 ≤ q.1) → GInv least (M ++ l) (l.foldl (gapStep least) s)
  | [], M, s, h, _, _ => by rw [List.append_nil]; exact h
  | p :: l, M, s, h, hM, hs => by
    have e : M ++ p :: l = (M ++ [p]) ++ l := by simp
    rw [e] at hs hM ⊢
    rw [List.foldl_cons]
    refine gapGo_best hl l (M ++ [p]) _ (h.step hl (fun q hq => hM q (by simp [hq])) (hM p (by simp)) fun q hq => ?_) hM hs
    exact (List.pairwise_append.1 (List.pairwise_append.1 hs).1).2.2 q hq p (by simp)
theorem ginv_one {least : Int} (p : Int × Int) : GInv least [p] (p.2, 0, 0) where
  hi := fun q hq => by rw [List.mem_singleton.1 hq]; exact Int.le_refl _
  at' := ⟨p, by simp, rfl⟩
  best := .inl ⟨rfl, fun d => by
    rintro ⟨f, t, h1, ⟨q, h2, h3, _⟩, _⟩
    rw [List.mem_singleton] at h1 h2
    subst h1; subst h2
    dsimp only at h3; omega⟩
  bd := ⟨.inl rfl, Int.le_refl _⟩
theorem gapFold_inv {least : Int} (hl : 1 ≤ least) {p : Int × Int} {l : List (Int × Int)} (hM : ∀ q, q ∈ p :: l → q.1 < q.2) (hs : (p :: l).Pairwise fun p q => p.1 ≤ q.1) : GInv least (p :: l) (l.foldl (gapStep least) (p.2, 0, 0)) :=
  gapGo_best hl l [p] _ (ginv_one p) hM hs
/-- What is found does not hang on how equal ones are sorted. -/
theorem gapFold_perm {least : Int} (hl : 1 ≤ least) {l l' : List (Int × Int)} (h : l.Perm l') (hM : ∀ q, q ∈ l → q.1 < q.2) (hs : l.Pairwise fun p q => p.1 ≤ q.1) (hs' : l'.Pairwise fun p q => p.1 ≤ q.1) : gapFold least l = gapFold least l' := by
  cases l with
  | nil => rw [List.nil_perm.1 h]
  | cons p l =>
    cases l' with
    | nil => exact absurd (List.perm_nil.1 h) (by simp)
    | cons p' l' =>
      exact Best.unique (fun q => h.mem_iff) (gapFold_inv hl hM hs).best (gapFold_inv hl (fun q hq => hM q (h.mem_iff.2 hq)) hs').best
/-- The first one, taken once more, changes nothing. -/
theorem gapStep_first {least : Int} (hl : 1 ≤ least) (p : Int × Int) (hp : p.1 < p.2) : gapStep least (p.2, 0, 0) p = (p.2, 0, 0) := by
  unfold gapStep
  dsimp only
  rw [if_neg (by omega)]
  congr 1; omega
def sortPr (l : List (Int × Int)) : List (Int × Int) := l.mergeSort fun p q => decide (p.1 ≤ q.1)
theorem sortPr_perm (l : List (Int × Int)) : (sortPr l).Perm l := List.mergeSort_perm _ _
theorem sortPr_sorted (l : List (Int × Int)) : (sortPr l).Pairwise fun p q => p.1 ≤ q.1 := by
  have := List.pairwise_mergeSort (le := fun p q : Int × Int => decide (p.1 ≤ q.1)) (fun a b c h1 h2 => by simp at *; omega) (fun a b => by simp; omega) l
  exact this.imp fun h => of_decide_eq_true h
/-- The first of the widest stretches. -/
def gapOf (least : Int) (l : List (Int × Int)) : Int × Int := gapFold least (sortPr l)
theorem gapOf_sorted {least : Int} (hl : 1 ≤ least) {l l' : List (Int × Int)} (h : l'.Perm l) (hM : ∀ q, q ∈ l → q.1 < q.2) (hs : l'.Pairwise fun p q => p.1 ≤ q.1) : gapFold least l' = gapOf least l :=
  gapFold_perm hl (h.trans (sortPr_perm l).symm) (fun q hq => hM q (h.mem_iff.1 hq)) hs (sortPr_sorted l)
theorem gapOf_perm {least : Int} (hl : 1 ≤ least) {l l' : List (Int × Int)} (h : l.Perm l') (hM : ∀ q, q ∈ l → q.1 < q.2) : gapOf least l = gapOf least l' :=
  gapFold_perm hl ((sortPr_perm l).trans (h.trans (sortPr_perm l').symm)) (fun q hq => hM q ((sortPr_perm l).mem_iff.1 hq)) (sortPr_sorted l) (sortPr_sorted l')
/-- Some begin ahead of a stretch that was found, and some do not. -/
theorem gapOf_parts {least : Int} (hl : 1 ≤ least) {l : List (Int × Int)} (hM : ∀ q, q ∈ l → q.1 < q.2) (h : (gapOf least l).2 ≠ 0) : (∃ q, q ∈ l ∧ q.1 < (gapOf least l).1) ∧ (∃ q, q ∈ l ∧ ¬ q.1 < (gapOf least l).1) ∧ 0 < (gapOf least l).2 := by
  have hp := sortPr_perm l
  have hs := sortPr_sorted l
  unfold gapOf at *
  generalize sortPr l = m at *
  cases m with
  | nil => exact absurd rfl h
  | cons p m =>
    have hi := gapFold_inv hl (fun q hq => hM q (hp.mem_iff.1 hq)) hs
    rcases hi.best with ⟨e, _⟩ | ⟨⟨f, t, h1, ⟨q, h2, h3, h4⟩, h5, h6, h7⟩, _⟩
    · exact absurd (show (gapFold least (p :: m)).2 = 0 from (congrArg Prod.snd e : (m.foldl (gapStep least) (p.2, 0, 0)).2.2 = 0)) h
    · have hq := hM q (hp.mem_iff.1 h2)
      have hg : gapFold least (p :: m) = (m.foldl (gapStep least) (p.2, 0, 0)).2 := rfl
      rw [hg]
      refine ⟨⟨q, hp.mem_iff.1 h2, by omega⟩, ⟨(f, t), hp.mem_iff.1 h1, by dsimp only; omega⟩, by omega⟩

/-! ### The order -/
def fx (b : Bx) : Int × Int := (b.x, b.x + b.w)
def fy (b : Bx) : Int × Int := (b.y, b.y + b.h)
def atG (c r : Int × Int) (gx gy : Int) : Prop := 0 < c.2 ∧ (r.2 = 0 ∨ r.2 * gx < c.2 * gy)
instance (c r : Int × Int) (gx gy : Int) : Decidable (atG c r gx gy) := inferInstanceAs (Decidable (_ ∧ _))
section
variable {τ : Type} (b : τ → Bx) (srt : List τ → List τ) (gx gy : Int)
/-- The order of reading, of things with boxes; 'srt': how those are read that no stretch parts. -/
def ordGo : Nat → List τ → List τ
  | 0, l => l
  | n + 1, l =>
    if l.length < 2 then l
    else if (gapOf gx (l.map fun i => fx (b i))).2 = 0 ∧ (gapOf gy (l.map fun i => fy (b i))).2 = 0 then srt l
    else if atG (gapOf gx (l.map fun i => fx (b i))) (gapOf gy (l.map fun i => fy (b i))) gx gy then
      ordGo n (l.filter fun i => decide ((b i).x < (gapOf gx (l.map fun i => fx (b i))).1)) ++ ordGo n (l.filter fun i => !decide ((b i).x < (gapOf gx (l.map fun i => fx (b i))).1))
    else
      ordGo n (l.filter fun i => decide ((b i).y < (gapOf gy (l.map fun i => fy (b i))).1)) ++ ordGo n (l.filter fun i => !decide ((b i).y < (gapOf gy (l.map fun i => fy (b i))).1))
end
theorem filter_lt {τ : Type} {p : τ → Bool} {l : List τ} (h : ∃ x, x ∈ l ∧ p x = false) : (l.filter p).length < l.length := by
  obtain ⟨x, hx, hp⟩ := h
  exact List.length_filter_lt_length_iff_exists.2 ⟨x, hx, by rw [hp]; decide⟩
end Go.Fv.U
