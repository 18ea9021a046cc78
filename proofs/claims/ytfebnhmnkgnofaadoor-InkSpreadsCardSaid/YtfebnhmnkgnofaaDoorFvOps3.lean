/-
  Stores, makes, literal slices, append, len.
-/
import Derived.Test.YtfebnhmnkgnofaaDoorFvOps2
namespace Go.Fv
open Go.RowKit
set_option linter.unusedVariables false
set_option linter.unusedSimpArgs false
set_option linter.unnecessarySimpa false

theorem splV_left : ∀ (us xs ys : List Value) (o : Nat), o + us.length ≤ xs.length → splV (xs ++ ys) o us = splV xs o us ++ ys
  | [], _, _, _, _ => rfl
  | u :: us, xs, ys, o, h => by
    simp only [List.length_cons] at h
    rw [splV, splV, List.set_append_left _ _ (by omega), splV_left us _ _ _ (by simp; omega)]
theorem splV_right : ∀ (us xs ys : List Value) (o : Nat), splV (xs ++ ys) (xs.length + o) us = xs ++ splV ys o us
  | [], _, _, _ => rfl
  | u :: us, xs, ys, o => by
    rw [splV, splV, List.set_append_right _ _ (by omega), Nat.add_sub_cancel_left, Nat.add_assoc, splV_right us]
theorem splV_length : ∀ (us xs : List Value) (o : Nat), (splV xs o us).length = xs.length
  | [], _, _ => rfl
  | u :: us, xs, o => by simp [splV, splV_length us]

theorem noIdL_set : ∀ (l : List AV) (i : Nat) (x : AV), noIdL l = true → noId x = true → noIdL (l.set i x) = true
  | [], _, _, _, _ => rfl
  | y :: l, 0, x, h, hx => by
    simp only [noIdL, Bool.and_eq_true] at h
    simp [noIdL, hx, h.2]
  | y :: l, i + 1, x, h, hx => by
    simp only [noIdL, Bool.and_eq_true] at h
    simp [noIdL, h.1, noIdL_set l i x h.2 hx]
theorem noIdL_spl : ∀ (cs l : List AV) (o : Nat), noIdL l = true → noIdL cs = true → noIdL (Fv.spl l o cs) = true
  | [], _, _, h, _ => h
  | c :: cs, l, o, h, hc => by
    simp only [noIdL, Bool.and_eq_true] at hc
    exact noIdL_spl cs _ _ (noIdL_set _ _ _ h hc.1) hc.2
theorem ObjsC.set {c : Ctx} {sz : Nat} : ∀ {l : List (List AV)} {cells : List Value} {i off : Nat} {cs : List AV} {us : List Value}, ObjsC c sz l cells → i < l.length → RvL c cs us → noIdL cs = true → off + us.length ≤ sz →
    ObjsC c sz (l.set i (Fv.spl (l.getD i []) off cs)) (splV cells (i * sz + off) us)
  | _, _, 0, off, cs, us, .cons _ o vs l cells h hid hl t, _, hu, hc, ho => by
    rw [Nat.zero_mul, Nat.zero_add, splV_left _ _ _ _ (by omega)]
    simp only [List.set_cons_zero, List.getD_cons_zero]
    exact .cons _ _ _ _ _ (h.spl off hu) (noIdL_spl _ _ _ hid hc) (by rw [splV_length]; exact hl) t
  | _, _, i + 1, off, cs, us, .cons _ o vs l cells h hid hl t, hi, hu, hc, ho => by
    have e : (i + 1) * sz + off = vs.length + (i * sz + off) := by rw [Nat.succ_mul, hl]; omega
    rw [e, splV_right]
    simp only [List.set_cons_succ, List.getD_cons_succ]
    exact .cons _ _ _ _ _ h hid hl (ObjsC.set t (by simpa using hi) hu hc ho)

theorem setElem_ok {c : Ctx} {r r' : RowV} {cells : List Value} {idx off : Nat} {cs : List AV} {us : List Value} (hr : RowC c r cells) (h : setElem r idx off cs = some r') (hu : RvL c cs us) (hid : noIdL cs = true)
    (hi : idx < r.len) : RowC c r' (splV cells (idx * r.sz + off) us) ∧ r'.len = r.len ∧ r'.sz = r.sz ∧ off + us.length ≤ r.sz := by
  cases hr with
  | bools l =>
    simp only [setElem] at h
    split at h <;> try (cases h; done)
    split at h <;> cases h
    rename_i e; subst e
    cases hu with
    | cons _ _ _ _ hx _ t =>
      cases hx; cases t
      refine ⟨?_, by simp [RowV.len], rfl, by simp [RowV.sz]⟩
      simp only [RowV.sz, Nat.mul_one, Nat.add_zero, splV]
      rw [← List.map_set]; exact .bools _
  | ints k l hk =>
    simp only [setElem] at h
    split at h <;> try (cases h; done)
    split at h <;> cases h
    rename_i e; obtain ⟨e, e2⟩ := e; subst e; subst e2
    cases hu with
    | cons _ _ _ _ hx _ t =>
      cases t
      cases hx with
      | int _ _ hin =>
        refine ⟨?_, by simp [RowV.len], rfl, by simp [RowV.sz]⟩
        simp only [RowV.sz, Nat.mul_one, Nat.add_zero, splV]
        rw [← List.map_set]
        exact .ints _ _ fun x hx => by
          rcases List.mem_or_eq_of_mem_set hx with h | h
          · exact hk x h
          · rw [h]; exact hin
  | strs l hs =>
    have key : ∀ q : List UInt8, q.length ≤ maxLen → RowC c (.strs (l.set idx q)) ((l.map fun s => Value.string ⟨s.toArray⟩).set idx (Value.string ⟨q.toArray⟩)) := by
      intro q hl
      have : (l.map fun s => Value.string ⟨s.toArray⟩).set idx (Value.string ⟨q.toArray⟩) = (l.set idx q).map fun s => Value.string ⟨s.toArray⟩ := (List.map_set ..).symm
      rw [this]
      exact .strs _ fun x hx => by
        rcases List.mem_or_eq_of_mem_set hx with h | h
        · exact hs x h
        · rw [h]; exact hl
    simp only [setElem] at h
    split at h <;> try (cases h; done)
    split at h <;> cases h
    rename_i e; subst e
    cases hu with
    | cons _ _ _ _ hx _ t =>
      cases t
      cases hx with
      | str _ hl =>
        exact ⟨by simpa only [RowV.sz, Nat.mul_one, Nat.add_zero, splV] using key _ hl, by simp [RowV.len], rfl, by simp [RowV.sz]⟩
  | objs sz l cells hz ho =>
    simp only [setElem] at h
    split at h <;> cases h
    rename_i hle
    have hlen := hu.length
    refine ⟨?_, by simp [RowV.len], rfl, by simp only [RowV.sz]; omega⟩
    simp only [RowV.sz]
    exact .objs _ _ _ hz (ho.set (by simpa [RowV.len] using hi) hu hid (by omega))
end Go.Fv
