/-
  The set by which a walk is reckoned.
-/
import Derived.Test.YtfebnhmnkgnofaaDoorFvAuto
namespace Go.Fv
theorem band_dec (p q : Prop) [Decidable p] [Decidable q] : (decide p && decide q) = decide (p ∧ q) := by simp
theorem bor_dec (p q : Prop) [Decidable p] [Decidable q] : (decide p || decide q) = decide (p ∨ q) := by simp
theorem bnot_dec (p : Prop) [Decidable p] : (!decide p) = decide (¬ p) := by simp
theorem beq_dec (a b : Bool) : (a == b) = decide (a = b) := by cases a <;> cases b <;> rfl
attribute [go_sem] not_true_eq_false or_true true_or false_or or_false and_false false_and or_self and_self Array.toList_replicate List.map_replicate List.mem_replicate not_false_eq_true ne_eq Value.oneCell' maxLen_eq Nat.zero_le band_dec bor_dec bnot_dec AV.int.injEq AV.bool.injEq vcCode thenS blockS knowB vcOps vcGo vcOp vcMove
  vcPick vcExtract vcMakeFunc vcBox vcAlloc vcLoad vcNil vcFieldAddr
  vcIndexAddr vcStore vcMake vcPut vcCallOp vcLen vcAppend vcBin
  vcUn vcConv vcIndex vcField vcMM minmax vcSlice vcBuildSlice
  vcBuild vcTree S.ev S.get S.set S.add S.swap S.after
  shRows lk put del evs opndOk strConstsOk ofV
  inKB ren renL frz frzL addElem addElems subRow
  knowInt ldCells aggB bnd bndOk zrow elemA setElem
  spl appRow rowOfAV boxable S.upd idxFrom bparts placeOf
  bytesOf noId noIdL below belowL RowV.len RowV.sz Item.ren
  csz_int csz_bool csz_str csz_slice csz_ptr csz_agg List.length_append List.length_set
  List.length_replicate List.length_nil List.mem_cons List.not_mem_nil or_false forall_eq forall_eq_or_imp implies_true
  false_implies eq_self List.set_cons_zero List.set_cons_succ List.drop_zero List.drop_succ_cons List.take_succ_cons List.take_zero
  List.size_toArray List.length_cons List.map_cons List.map_nil List.replicate_zero List.nil_append List.cons_append List.append_nil
  List.reverse_nil List.zipIdx_cons List.zipIdx_nil Array.toList_empty List.getElem?_cons_zero List.getElem?_cons_succ List.getElem?_toArray Option.bind_some
  Option.map_some Option.getD_some Nat.one_mul decide_true decide_false Bool.and_self Bool.true_and Bool.false_and
  Bool.and_true Bool.and_false Bool.not_true Bool.not_false cond_true cond_false Ite_true Ite_false
  and_true true_and and_self Chk_true Bool.not_eq_true' Nat.zero_add Nat.add_zero Int.toNat_natCast
  Int.ofNat_eq_natCast pkC pkV peelE peelC peel gOps gBin
  gLen gHead gCell gVal gPick pickOk vcWhen LetW_eq
  Chk_r Asm_r Bool.and_eq_true decide_eq_true_eq Bool.cond_true_left Bool.cond_false_right imp_self Bool.not_eq_true
  decide_eq_false_iff_not Decidable.not_not Bool.not_not InK_i64 InK_u8 Int.natCast_zero
end Go.Fv
