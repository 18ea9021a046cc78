/-
  A part of the proof of the claim: walks over the program's functions and the plain laws that these need. No condition of its own.
-/
import Derived.Test.YtmdaiceacfgkpaaGreatDoorFvPart4
import Derived.Laws.IdiomStrings
import Derived.MapKept
import Derived.Maps.Keyed
import Derived.Maps.RangeRun
import Derived.Laws.IdiomRangeMap
import Derived.ChangeMaps4
/-
  A text's bytes as a row of the call's own.
-/
namespace Go.Fv
set_option linter.unusedSectionVars false
open Go.RowKit
set_option linter.unusedVariables false
set_option linter.unusedSimpArgs false
set_option linter.unnecessarySimpa false

def byteInts (l : List UInt8) : List Int := l.map fun b => (b.toNat : Int)
def vcConvX (P : Program) (src dst : TypeId) (x : Operand) (s : S) (K : AV → S → Prop) : Prop :=
  match P.underlying dst with
  | some (.slice e) => match s.ev x with
    | .str l => Chk (P.underlying src = some .string ∧ P.underlying e = some (.int .u8)) (K (.own s.next) (s.add (.row e (.ints .u8 (byteInts l)))))
    | _ => False
  | _ => vcConv P src dst x s K

section
variable {P : Program} {w0 : World} {T0 : Bs} {o : Oper} {s : S} {K : AV → S → Prop}
theorem vcConvX_sound {src dst : TypeId} {x : Operand} (ho : o.op = .convert src dst x) (hx : opndOk x) (h : vcConvX P src dst x s K) : OpSem P w0 T0 o s K := by
  unfold vcConvX at h
  split at h
  · rename_i e hd
    split at h
    · rename_i l hl
      obtain ⟨⟨hs, he⟩, hk⟩ := h
      refine OpSem.mem fun H a w m hm => ?_
      have rx := hm.ev x hx
      rw [hl] at rx
      generalize hvx : a.eval x = vx at rx
      cases rx with
      | str _ hlen =>
        have hr := run_bytes_of_string (P := P) w src dst e ⟨l.toArray⟩ hs hd he
        have hsz : (⟨l.toArray⟩ : ByteArray).size = l.length := by simp [ByteArray.size]
        rw [hsz] at hr
        have hge := grownCap_ge w l.length 0 e
        have hle := grownCap_le_maxLen w l.length 0 e hlen
        have hrow : (bytesRow ⟨l.toArray⟩ (grownCap w l.length 0 e)).size = grownCap w l.length 0 e := by
          simp [bytesRow, hsz]; omega
        have htk : (bytesRow ⟨l.toArray⟩ (grownCap w l.length 0 e)).toList.take (l.length * 1) = (byteInts l).map (Value.int .u8) := by
          have e1 : (bytesRow ⟨l.toArray⟩ (grownCap w l.length 0 e)).toList = (l.map fun b => Value.int .u8 b.toNat) ++ List.replicate (grownCap w l.length 0 e - l.length) (.int .u8 0) := by
            simp [bytesRow, hsz]
          rw [e1, Nat.mul_one]
          have e2 : (l.map fun b => Value.int .u8 b.toNat).length = l.length := by simp
          rw [← e2, List.take_left']
          · simp [byteInts]
          · rfl
        generalize bytesRow ⟨l.toArray⟩ (grownCap w l.length 0 e) = cur at *
        generalize grownCap w l.length 0 e = cap at *
        have hin : ∀ x, x ∈ byteInts l → InK .u8 x := by
          intro x hx
          obtain ⟨b, _, rfl⟩ := List.mem_map.1 hx
          have := b.toNat_lt
          exact InK_u8.2 ⟨by omega, by omega⟩
        have hnew := (hm.drew).new (w' := w.drew.alloc (.cells cur e (cur.size, cur.size + 1))) (hm.drew.below.alloc _) (fun b hb => Below.heap_alloc w.drew _ b hb) (.row e (.ints .u8 (byteInts l))) (.slice (some ⟨w.heap.size, 0, none⟩) l.length cap) (fun b hb => by cases hb; exact Nat.le_refl _)
          (fun c hle' hw => ⟨l.length, (byteInts l).map (Value.int .u8), .ints .u8 _ hin, by simp [RowV.len, byteInts], ⟨by simp [RowV.sz, byteInts], .inr ⟨w.heap.size, cap, cur, (cur.size, cur.size + 1), rfl, .inr (Nat.le_refl _), by rw [hw]; exact heap_alloc_new w.drew _, hge, hle, by simp [RowV.sz, hrow], htk⟩⟩, fun b hb => by cases hb; exact .inl hm.lt⟩)
        refine ⟨_, _, _, _, _, hk, .inl ?_, hold_own hnew rfl⟩
        unfold execOp; rw [ho]
        simp [hvx, hr]
    · exact h.elim
  · exact vcConv_sound ho hx h
end
end Go.Fv

/-
  Maps: made, read, written, gone through.
-/
namespace Go.Fv
set_option linter.unusedSectionVars false
open Go.RowKit
open Go.ChangeMaps (setBlock)
set_option linter.unusedVariables false
set_option linter.unusedSimpArgs false
set_option linter.unnecessarySimpa false

/-! ### Keys -/
mutual
def keyAV : AV → Bool
  | .bool _ => true
  | .int _ _ => true
  | .str _ => true
  | .agg cs => keyAVs cs
  | _ => false
def keyAVs : List AV → Bool
  | [] => true
  | x :: l => keyAV x && keyAVs l
end
mutual
def valK : AV → Value
  | .bool b => .bool b
  | .int k n => .int k n
  | .str s => .string ⟨s.toArray⟩
  | .agg cs => .agg (valKs cs).toArray
  | _ => undef
def valKs : List AV → List Value
  | [] => []
  | x :: l => valK x :: valKs l
end
mutual
def wfA : AV → Prop
  | .int k n => InK k n
  | .str s => s.length ≤ maxLen
  | .agg cs => wfAs cs
  | _ => True
def wfAs : List AV → Prop
  | [] => True
  | x :: l => wfA x ∧ wfAs l
end
mutual
theorem keyAV_val {c : Ctx} : ∀ (x : AV) {v : Value}, keyAV x = true → Rv c x v → v = valK x ∧ wfA x
  | .bool b, _, _, h => by cases h; exact ⟨rfl, trivial⟩
  | .int k n, _, _, h => by cases h with | int _ _ hk => exact ⟨rfl, hk⟩
  | .str s, _, _, h => by cases h with | str _ hk => exact ⟨rfl, hk⟩
  | .agg cs, _, e, h => by
    cases h with
    | agg _ vs hl =>
      obtain ⟨h1, h2⟩ := keyAVs_val cs (by simpa only [keyAV] using e) hl
      subst h1
      exact ⟨rfl, h2⟩
theorem keyAVs_val {c : Ctx} : ∀ (x : List AV) {v : List Value}, keyAVs x = true → RvL c x v → v = valKs x ∧ wfAs x
  | [], _, _, h => by cases h; exact ⟨rfl, trivial⟩
  | x :: l, _, e, h => by
    simp only [keyAVs, Bool.and_eq_true] at e
    cases h with
    | cons _ u _ us hu h1 ht =>
      obtain ⟨h1, h2⟩ := keyAV_val x e.1 hu
      obtain ⟨h3, h4⟩ := keyAVs_val l e.2 ht
      exact ⟨by rw [h1, h3]; rfl, h2, h4⟩
end
mutual
theorem valK_inj : ∀ (x y : AV), keyAV x = true → keyAV y = true → valK x = valK y → x = y
  | .bool _, y, _, hy, h => by cases y <;> simp_all [valK, keyAV, undef]
  | .int _ _, y, _, hy, h => by cases y <;> simp_all [valK, keyAV, undef]
  | .str s, y, _, hy, h => by
    cases y <;> simp_all [valK, keyAV, undef]
  | .agg cs, y, hx, hy, h => by
    cases y with
    | agg cs' =>
      simp only [valK, Value.agg.injEq] at h
      have h' : valKs cs = valKs cs' := by simpa using congrArg Array.toList h
      rw [valKs_inj cs cs' (by simpa only [keyAV] using hx) (by simpa only [keyAV] using hy) h']
    | _ => simp_all [valK, keyAV, undef]
theorem valKs_inj : ∀ (x y : List AV), keyAVs x = true → keyAVs y = true → valKs x = valKs y → x = y
  | [], [], _, _, _ => rfl
  | [], _ :: _, _, _, h => by simp [valKs] at h
  | _ :: _, [], _, _, h => by simp [valKs] at h
  | x :: l, y :: l', hx, hy, h => by
    simp only [keyAVs, Bool.and_eq_true] at hx hy
    simp only [valKs, List.cons.injEq] at h
    rw [valK_inj x y hx.1 hy.1 h.1, valKs_inj l l' hx.2 hy.2 h.2]
end
mutual
/-- Two keys are one key. -/
def eqKey : AV → AV → Bool
  | .bool a, y => match y with | .bool b => decide (a = b) | _ => false
  | .int k a, y => match y with | .int k' b => decide (k = k' ∧ a = b) | _ => false
  | .str a, y => match y with | .str b => decide (a = b) | _ => false
  | .agg xs, y => match y with | .agg ys => eqKeys xs ys | _ => false
  | _, _ => false
def eqKeys : List AV → List AV → Bool
  | [], y => match y with | [] => true | _ => false
  | x :: l, y => match y with | z :: l' => eqKey x z && eqKeys l l' | [] => false
end
mutual
theorem eqKey_iff : ∀ (x y : AV), keyAV x = true → (eqKey x y = true ↔ x = y)
  | .bool a, y, _ => by cases y <;> simp [eqKey]
  | .int k a, y, _ => by cases y <;> simp [eqKey]
  | .str a, y, _ => by cases y <;> simp [eqKey]
  | .agg xs, y, h => by
    cases y <;> simp only [eqKey, Bool.false_eq_true, reduceCtorEq, AV.agg.injEq]
    exact eqKeys_iff xs _ (by simpa only [keyAV] using h)
theorem eqKeys_iff : ∀ (x y : List AV), keyAVs x = true → (eqKeys x y = true ↔ x = y)
  | [], y, _ => by cases y <;> simp [eqKeys]
  | x :: l, y, h => by
    simp only [keyAVs, Bool.and_eq_true] at h
    cases y with
    | nil => simp [eqKeys]
    | cons z l' => simp only [eqKeys, Bool.and_eq_true, eqKey_iff x z h.1, eqKeys_iff l l' h.2, List.cons.injEq]
end
def keyIdx : List AV → AV → Option Nat
  | [], _ => none
  | x :: l, k => if eqKey x k = true then some 0 else (keyIdx l k).map (· + 1)
/-- A key that the type takes. -/
def KeyT (P : Program) (kt : TypeId) (x : AV) : Prop := keyAV x = true ∧ (wfA x → ∃ l, keyOf P kt (valK x) = some l)
def KeysT (P : Program) (kt : TypeId) (l : List AV) : Prop := ∀ x, x ∈ l → KeyT P kt x
theorem KeyT.int {P : Program} {kt : TypeId} {q : IntKind} (h : P.underlying kt = some (.int q)) (n : Int) : KeyT P kt (.int q n) :=
  ⟨rfl, fun hw => ⟨_, Maps.keyOf_int_mk h (by simpa [Lit.wf, wfA, InK] using hw)⟩⟩
theorem KeyT.str {P : Program} {kt : TypeId} (h : P.underlying kt = some .string) (s : List UInt8) : KeyT P kt (.str s) :=
  ⟨rfl, fun hw => ⟨_, WideMaps.keyOf_string_mk (s := ⟨s.toArray⟩) h (by show s.toArray.size ≤ maxLen; simpa [wfA] using hw)⟩⟩
theorem KeysT_nil {P : Program} {kt : TypeId} : KeysT P kt [] := fun x h => by cases h
theorem KeysT_map {P : Program} {kt : TypeId} {α : Type} {f : α → AV} (h : ∀ a, KeyT P kt (f a)) (l : List α) : KeysT P kt (l.map f) := fun x hx => by
  obtain ⟨a, _, rfl⟩ := List.mem_map.1 hx; exact h a

theorem RvT.get' {c : Ctx} : ∀ {l : List AV} {vs : List Value} {i : Nat} {v : Value}, RvT c l vs → vs[i]? = some v → ∃ x, l[i]? = some x ∧ Rv c x v
  | _, _, i, v, .nil, h => by simp at h
  | _, _, 0, v, .cons x u l vs hx ht, h => by simp at h; subst h; exact ⟨x, rfl, hx⟩
  | _, _, i + 1, v, .cons x u l vs hx ht, h => by simpa using RvT.get' (i := i) ht (by simpa using h)
theorem RvT.set {c : Ctx} : ∀ {l : List AV} {vs : List Value} (i : Nat) {x : AV} {v : Value}, RvT c l vs → Rv c x v → RvT c (l.set i x) (vs.set i v)
  | _, _, _, _, _, .nil, _ => .nil
  | _, _, 0, _, _, .cons y u l vs _ ht, h => .cons _ _ _ _ h ht
  | _, _, i + 1, _, _, .cons y u l vs hy ht, h => .cons _ _ _ _ hy (RvT.set i ht h)

theorem keyIdx_some : ∀ {ks : List AV} {k : AV} {j : Nat}, keyIdx ks k = some j → ∃ x, ks[j]? = some x ∧ eqKey x k = true
  | x :: l, k, j, h => by
    simp only [keyIdx] at h
    split at h
    · rename_i e; cases h; exact ⟨x, rfl, e⟩
    · simp only [Option.map_eq_some_iff] at h
      obtain ⟨i, hi, rfl⟩ := h
      obtain ⟨y, h1, h2⟩ := keyIdx_some hi
      exact ⟨y, by simpa using h1, h2⟩
theorem keyIdx_none : ∀ {ks : List AV} {k : AV}, keyIdx ks k = none → ∀ x, x ∈ ks → eqKey x k = false
  | y :: l, k, h, x, hx => by
    simp only [keyIdx] at h
    split at h
    · cases h
    · rename_i e
      simp only [Option.map_eq_none_iff] at h
      cases List.mem_cons.1 hx with
      | inl e' => subst e'; simpa using e
      | inr e' => exact keyIdx_none h x e'

theorem nodup_at {α β : Type} {f : α → β} {l : List α} (hn : (l.map f).Nodup) {i j : Nat} {a b : α} (hi : l[i]? = some a) (hj : l[j]? = some b) (e : f a = f b) : i = j := by
  have h1 : (l.map f)[i]? = some (f a) := by simp [hi]
  have h2 : (l.map f)[j]? = some (f a) := by simp [hj, e]
  exact (List.getElem?_inj (List.getElem?_eq_some_iff.1 h1).1 hn).1 (h1.trans h2.symm)

/-- WHERE A KEY STANDS. -/
theorem find_run {c : Ctx} {P : Program} {kt : TypeId} {ks : List AV} {k : AV} {es : Array MapEntry} {kv : Value} (w : World) (hK : Maps.Keyed P kt) (hks : KeysT P kt ks) (hk : KeyT P kt k)
    (hr : RvT c ks (es.toList.map MapEntry.key)) (hkv : Rv c k kv) (hn : (es.toList.map MapEntry.key).Nodup) :
    (keyIdx ks k = none ∧ (Instr.findKey kt kv es.toList).run P w = .ok none w ∧ ∀ e ∈ es.toList, e.key ≠ kv) ∨
    ∃ j e, keyIdx ks k = some j ∧ es[j]? = some e ∧ e.key = kv ∧ (Instr.findKey kt kv es.toList).run P w = .ok (some (j, e.val)) w := by
  obtain ⟨hv, hwf⟩ := keyAV_val k hk.1 hkv
  obtain ⟨lx, hlx⟩ := hk.2 hwf
  rw [← hv] at hlx
  have hall : ∀ e ∈ es.toList, ∃ l, keyOf P kt e.key = some l := by
    intro e he
    obtain ⟨i, hi⟩ := List.getElem?_of_mem he
    obtain ⟨x, hx, hxv⟩ := hr.get' (i := i) (v := e.key) (by simp [hi])
    obtain ⟨h1, h2⟩ := hks x (List.mem_of_getElem? hx)
    obtain ⟨h3, h4⟩ := keyAV_val x h1 hxv
    rw [h3]; exact h2 h4
  have hat : ∀ (j : Nat) (e : MapEntry), es[j]? = some e → ∃ x, ks[j]? = some x ∧ keyAV x = true ∧ e.key = valK x := by
    intro j e he
    obtain ⟨x, hx, hxv⟩ := hr.get' (i := j) (v := e.key) (by simp [he])
    have h1 := (hks x (List.mem_of_getElem? hx)).1
    exact ⟨x, hx, h1, (keyAV_val x h1 hxv).1⟩
  rcases hK.find w hlx es.toList hall with ⟨h1, h2⟩ | ⟨j, e, h1, h2, h3⟩
  · refine .inl ⟨?_, h1, h2⟩
    cases hq : keyIdx ks k with
    | none => rfl
    | some j =>
      obtain ⟨x, hx, he⟩ := keyIdx_some hq
      obtain ⟨v, hv', hxv⟩ := hr.get hx
      have hxk : x = k := (eqKey_iff x k (hks x (List.mem_of_getElem? hx)).1).1 he
      subst hxk
      rw [List.getElem?_map] at hv'
      simp only [Option.map_eq_some_iff] at hv'
      obtain ⟨e, he', rfl⟩ := hv'
      exact absurd ((keyAV_val x hk.1 hxv).1.trans hv.symm) (h2 e (List.mem_of_getElem? he'))
  · have h2' : es[j]? = some e := by simpa using h2
    obtain ⟨x, hx, hx1, hx2⟩ := hat j e h2'
    have hxk : x = k := valK_inj x k hx1 hk.1 (by rw [← hx2, h3, hv])
    refine .inr ⟨j, e, ?_, h2', h3, h1⟩
    cases hq : keyIdx ks k with
    | none =>
      have := keyIdx_none hq x (List.mem_of_getElem? hx)
      rw [(eqKey_iff x k hx1).2 hxk] at this; cases this
    | some i =>
      obtain ⟨y, hy, he⟩ := keyIdx_some hq
      obtain ⟨v, hv', hyv⟩ := hr.get hy
      have hy1 := (hks y (List.mem_of_getElem? hy)).1
      have hyk : y = k := (eqKey_iff y k hy1).1 he
      rw [List.getElem?_map] at hv'
      simp only [Option.map_eq_some_iff] at hv'
      obtain ⟨e', he', rfl⟩ := hv'
      have hke : e'.key = e.key := by rw [(keyAV_val y hy1 hyv).1, hyk, h3, hv]
      rw [nodup_at hn he' h2 hke]

/-! ### What is read -/
def isB : AV → Bool | .bool _ => true | _ => false
def isI (q : IntKind) : AV → Bool | .int k _ => decide (k = q) | _ => false
def isS : AV → Bool | .str _ => true | _ => false
def getV (ks vs : List AV) (k : AV) : Option AV := (keyIdx ks k).bind fun j => vs[j]?
def getB (ks vs : List AV) (k : AV) : Bool := match getV ks vs k with | some (.bool b) => b | _ => false
def getI (ks vs : List AV) (k : AV) : Int := match getV ks vs k with | some (.int _ n) => n | _ => 0
def getS (ks vs : List AV) (k : AV) : List UInt8 := match getV ks vs k with | some (.str s) => s | _ => []
def mapOf (s : S) : AV → Option (List AV × List AV)
  | .own i => match lk s.rows i with
    | some (.map ks vs) => some (ks, vs)
    | _ => none
  | .mp ks vs => some (ks, vs)
  | .raw (.map none) => some ([], [])
  | _ => none
/-- What a map gives, whatever it is. -/
def getO (ks vs : List AV) (k z : AV) : AV := match getV ks vs k with | some v => v | none => z
theorem getO_some {ks vs : List AV} {k z v : AV} (h : getV ks vs k = some v) : getO ks vs k z = v := by simp [getO, h]
theorem getO_none {ks vs : List AV} {k z : AV} (h : getV ks vs k = none) : getO ks vs k z = z := by simp [getO, h]
class BrL where
  k : AV → S → Prop
/-- A value of a map, whatever it is: simp does not look inside. -/
def VcLook (ks vs : List AV) (k z : AV) (ok : Bool) (s : S) [K : BrL] : Prop :=
  (∀ v, getV ks vs k = some v → K.k (bif ok then .tup [v, .bool true] else v) s) ∧ (getV ks vs k = none → K.k (bif ok then .tup [z, .bool false] else z) s)
@[congr] theorem VcLook_congr {ks ks' vs vs' : List AV} {k k' z : AV} {ok : Bool} {s s' : S} {K : BrL} (h1 : ks = ks') (h2 : vs = vs') (h3 : k = k') (h4 : s = s') : @VcLook ks vs k z ok s K = @VcLook ks' vs' k' z ok s' K := by rw [h1, h2, h3, h4]
theorem VcLook.some {ks vs : List AV} {k z v : AV} {ok : Bool} {s : S} {K : AV → S → Prop} (h : getV ks vs k = some v) (hk : K (bif ok then .tup [v, .bool true] else v) s) : @VcLook ks vs k z ok s ⟨K⟩ :=
  And.intro (fun v' e => by rw [h] at e; cases e; exact hk) (fun e => by rw [h] at e; cases e)
theorem VcLook.none {ks vs : List AV} {k z : AV} {ok : Bool} {s : S} {K : AV → S → Prop} (h : getV ks vs k = none) (hk : K (bif ok then .tup [z, .bool false] else z) s) : @VcLook ks vs k z ok s ⟨K⟩ :=
  And.intro (fun v' e => by rw [h] at e; cases e) (fun _ => hk)
def lookK (ks vs : List AV) (k : AV) (z : Value) (ok : Bool) (s : S) (K : AV → S → Prop) : Prop :=
  match z with
  | .bool b => Chk (b = false ∧ vs.all isB = true) (K (bif ok then .tup [.bool (getB ks vs k), .bool (keyIdx ks k).isSome] else .bool (getB ks vs k)) s)
  | .int q n => Chk (n = 0 ∧ vs.all (isI q) = true) (K (bif ok then .tup [.int q (getI ks vs k), .bool (keyIdx ks k).isSome] else .int q (getI ks vs k)) s)
  | .string b => Chk (b.size = 0 ∧ vs.all isS = true) (K (bif ok then .tup [.str (getS ks vs k), .bool (keyIdx ks k).isSome] else .str (getS ks vs k)) s)
  | z => K (bif ok then .tup [getO ks vs k (ofV z), .bool (keyIdx ks k).isSome] else getO ks vs k (ofV z)) s
def vcLookup (P : Program) (t : TypeId) (x i : Operand) (ok : Bool) (s : S) (K : AV → S → Prop) : Prop :=
  match P.underlying t with
  | some (.map kt et) => match zeroOf P et with
    | some z => match mapOf s (s.ev x) with
      | some (ks, vs) => Chk (opndOk x ∧ opndOk i) (Chk (ElemZ P et z ∧ Maps.Keyed P kt ∧ KeyT P kt (s.ev i) ∧ KeysT P kt ks) (lookK ks vs (s.ev i) z ok s K))
      | none => False
    | none => False
  | _ => False

section
variable {P : Program} {w0 : World} {T0 : Bs} {o : Oper} {s : S} {K : AV → S → Prop}

theorem mapOf_ok {H : List (AV × Value)} {a : Act} {w : World} {m : Nat → Value} (hm : RepM w0 T0 H s a w m) {x : AV} {v : Value} (hx : Rv (ctxOf T0 w0.heap.size m s w) x v) {ks vs : List AV} (h : mapOf s x = some (ks, vs)) :
    (v = .map none ∧ ks = [] ∧ vs = []) ∨ ∃ g es clock, v = .map (some g) ∧ w.heap[g]? = some (.map es clock) ∧ RvT (ctxOf T0 w0.heap.size m s w) ks (es.toList.map MapEntry.key) ∧ RvT (ctxOf T0 w0.heap.size m s w) vs (es.toList.map MapEntry.val) ∧ (∀ (i : Nat) (e : MapEntry), es[i]? = some e → e.born = i) ∧ MapG es clock := by
  unfold mapOf at h
  split at h
  · rename_i i
    split at h
    · rename_i ks' vs' hi
      cases h
      obtain ⟨g, es, clock, hv, _, h1, h2, h3, h4, hh⟩ := (hm.rows i _ hi).2
      cases hx with
      | own _ _ _ => exact .inr ⟨g, es, clock, hv, hh, h1, h2, h3, h4⟩
    · cases h
  · cases h
    cases hx with
    | mp _ _ g es clock h1 h2 h3 h4 hT hh _ _ => exact .inr ⟨g, es, clock, rfl, hh, h1, h2, h3, h4⟩
  · cases h; cases hx; exact .inl ⟨rfl, rfl, rfl⟩
  · cases h

theorem InK_zero (q : IntKind) : InK q 0 := by cases q <;> simp [InK, IntKind.min, IntKind.max, IntKind.signed, IntKind.bits]
theorem lookK_ok {H : List (AV × Value)} {a : Act} {w : World} {m : Nat → Value} (hm : RepM w0 T0 H s a w m) {ks vs : List AV} {k : AV} {z : Value} {ok : Bool} (h : lookK ks vs k z ok s K) (hz : zOk z)
    {v : Value} {b : Bool} (hfound : (b = true ∧ ∃ x, getV ks vs k = some x ∧ Rv (ctxOf T0 w0.heap.size m s w) x v ∧ x ∈ vs) ∨ (b = false ∧ getV ks vs k = none ∧ v = z)) (hb : (keyIdx ks k).isSome = b) :
    ∃ r, K r s ∧ Rv (ctxOf T0 w0.heap.size m s w) r (if ok then .tuple #[v, .bool b] else v) := by
  have fin : ∀ (x : AV), K (bif ok then .tup [x, .bool b] else x) s → Rv (ctxOf T0 w0.heap.size m s w) x v → ∃ r, K r s ∧ Rv (ctxOf T0 w0.heap.size m s w) r (if ok then .tuple #[v, .bool b] else v) := by
    intro x hk hx
    refine ⟨_, hk, ?_⟩
    cases ok with
    | true => exact .tup _ [v, .bool b] (.cons _ _ _ _ hx (.cons _ _ _ _ (.bool b) .nil))
    | false => exact hx
  have gen : K (bif ok then .tup [getO ks vs k (ofV z), .bool (keyIdx ks k).isSome] else getO ks vs k (ofV z)) s → ∃ r, K r s ∧ Rv (ctxOf T0 w0.heap.size m s w) r (if ok then .tuple #[v, .bool b] else v) := by
    intro h
    rw [hb] at h
    refine fin _ h ?_
    rcases hfound with ⟨rfl, x, hx, hr, _⟩ | ⟨rfl, hx, rfl⟩
    · rw [getO_some hx]; exact hr
    · rw [getO_none hx]
      refine ofV_rv _ _ ?_
      cases v <;> first | trivial | exact hz
  unfold lookK at h
  split at h
  · obtain ⟨⟨rfl, hall⟩, h⟩ := h
    rw [hb] at h
    refine fin _ h ?_
    rcases hfound with ⟨rfl, x, hx, hr, hmem⟩ | ⟨rfl, hx, rfl⟩
    · have := List.all_eq_true.1 hall x hmem
      cases x <;> simp [isB] at this
      simp only [getB, hx]; exact hr
    · simp only [getB, hx]; exact .bool _
  · obtain ⟨⟨rfl, hall⟩, h⟩ := h
    rw [hb] at h
    refine fin _ h ?_
    rcases hfound with ⟨rfl, x, hx, hr, hmem⟩ | ⟨rfl, hx, rfl⟩
    · have := List.all_eq_true.1 hall x hmem
      cases x <;> simp [isI] at this
      subst this
      simp only [getI, hx]; exact hr
    · simp only [getI, hx]; exact .int _ _ (InK_zero _)
  · rename_i bb
    obtain ⟨⟨h0, hall⟩, h⟩ := h
    rw [hb] at h
    refine fin _ h ?_
    rcases hfound with ⟨rfl, x, hx, hr, hmem⟩ | ⟨rfl, hx, rfl⟩
    · have := List.all_eq_true.1 hall x hmem
      cases x <;> simp [isS] at this
      simp only [getS, hx]; exact hr
    · simp only [getS, hx]
      have e : bb = ⟨#[]⟩ := by
        obtain ⟨d⟩ := bb
        have : d.size = 0 := h0
        rw [Array.eq_empty_of_size_eq_zero this]
      subst e
      exact .str [] (Nat.zero_le _)
  · exact gen h

theorem vcLookup_still {t : TypeId} {x i : Operand} {ok : Bool} (ho : o.op = .lookup t x i ok) (h : vcLookup P t x i ok s K) : StillSem P w0 T0 o s K := by
  unfold vcLookup at h
  intro H a w m hm
  cases ht : P.underlying t with
  | none => rw [ht] at h; exact h.elim
  | some d =>
    rw [ht] at h
    cases d with
    | map kt et =>
      dsimp only at h
      cases hz : zeroOf P et with
      | none => rw [hz] at h; exact h.elim
      | some z =>
        rw [hz] at h
        dsimp only at h
        cases hq : mapOf s (s.ev x) with
        | none => rw [hq] at h; exact h.elim
        | some p =>
          obtain ⟨ks, vs⟩ := p
          rw [hq] at h
          obtain ⟨⟨hx, hi⟩, ⟨hez, hK, hkt, hks⟩, h⟩ := h
          have ri := hm.ev i hi
          obtain ⟨inf, hinf, hiz, his, hib⟩ := hez.ex
          have hzr : (zeroValue et).run P w = .ok z w := by simp [zeroValue, typeInfo, hinf, hiz]
          obtain ⟨hv, hwf⟩ := keyAV_val _ hkt.1 ri
          obtain ⟨lx, hlx⟩ := hkt.2 hwf
          rw [← hv] at hlx
          have hck : ∀ em, (Instr.checkKey em 10000 kt (a.eval i)).run P w = .ok () w := fun em => hK.check w em hlx
          rcases mapOf_ok hm (hm.ev x hx) hq with ⟨hv, rfl, rfl⟩ | ⟨g, es, clock, hv, hh, h1, h2, h3, h4⟩
          · obtain ⟨r, hk, hr⟩ := lookK_ok hm h hez.ok (v := z) (b := false) (.inr ⟨rfl, rfl, rfl⟩) rfl
            refine ⟨r, _, hk, ?_, hr⟩
            unfold execOp; rw [ho]
            have hf : (Instr.findKey kt (a.eval i) []).run P w = .ok none w := by
              have := find_run (c := ctxOf T0 w0.heap.size m s w) (es := #[]) w hK KeysT_nil hkt .nil ri (by simp)
              rcases this with ⟨_, h, _⟩ | ⟨j, e, h, _⟩
              · exact h
              · cases h
            simp [Instr.lookup, run_underlying ht, hv, Sem.run_bind, Result.andThen, hck, hf, hzr]
          · have hfr := find_run w hK hks hkt h1 ri h4.2
            have hget : (getObj g).run P w = .ok (.map es clock) w := MapKept.run_getObj_map hh
            rcases hfr with ⟨e1, e2, _⟩ | ⟨j, e, e1, e2, e3, e4⟩
            · obtain ⟨r, hk, hr⟩ := lookK_ok hm h hez.ok (v := z) (b := false) (.inr ⟨rfl, by simp [getV, e1], rfl⟩) (by simp [e1])
              refine ⟨r, _, hk, ?_, hr⟩
              unfold execOp; rw [ho]
              simp [Instr.lookup, run_underlying ht, hv, Sem.run_bind, Result.andThen, hget, hck, e2, hzr]
            · obtain ⟨y, hy, hyv⟩ := h2.get' (i := j) (v := e.val) (by simp [e2])
              obtain ⟨r, hk, hr⟩ := lookK_ok hm h hez.ok (v := e.val) (b := true) (.inl ⟨rfl, y, by simp [getV, e1, hy], hyv, List.mem_of_getElem? hy⟩) (by simp [e1])
              refine ⟨r, _, hk, ?_, hr⟩
              unfold execOp; rw [ho]
              simp [Instr.lookup, run_underlying ht, hv, Sem.run_bind, Result.andThen, hget, hck, e4]
    | _ => exact h.elim
theorem vcLookup_sound {t : TypeId} {x i : Operand} {ok : Bool} (ho : o.op = .lookup t x i ok) (h : vcLookup P t x i ok s K) : OpSem P w0 T0 o s K := (vcLookup_still ho h).op
end
end Go.Fv

/-
  Maps: made, written, gone through.
-/
namespace Go.Fv
set_option linter.unusedSectionVars false
open Go.RowKit
open Go.ChangeMaps (setBlock)
set_option linter.unusedVariables false
set_option linter.unusedSimpArgs false
set_option linter.unnecessarySimpa false

def updKs (ks : List AV) (k : AV) : List AV := match keyIdx ks k with | some _ => ks | none => ks ++ [k]
def updVs (ks vs : List AV) (k v : AV) : List AV := match keyIdx ks k with | some j => vs.set j v | none => vs ++ [v]
/-- Where an entry stands that is to be written. -/
def entIx (ks : List AV) (k : AV) : Nat := match keyIdx ks k with | some j => j | none => ks.length
def entVs (ks vs : List AV) (k z : AV) : List AV := match keyIdx ks k with | some _ => vs | none => vs ++ [z]

def vcMakeMap (P : Program) (t : TypeId) (r : Option Operand) (s : S) (K : AV → S → Prop) : Prop :=
  match r with
  | none => K (.own s.next) (s.add (.map [] []))
  | some _ => False
def vcMapUpd (P : Program) (t : TypeId) (x k v : Operand) (s : S) (K : AV → S → Prop) : Prop :=
  match P.underlying t with
  | some (.map kt et) => match s.ev x with
    | .own i => match lk s.rows i with
      | some (.map ks vs) => Chk (opndOk x ∧ opndOk k ∧ opndOk v) (Chk (Maps.Keyed P kt ∧ KeyT P kt (s.ev k) ∧ KeysT P kt ks) (K .dead (s.upd i (.map (updKs ks (s.ev k)) (updVs ks vs (s.ev k) (s.ev v))))))
      | _ => False
    | _ => False
  | _ => False
/-- The entry of a key, laid if it is missing: its value and its stamp. -/
def entK (ks vs : List AV) (k : AV) (z : Value) (i : Nat) (s : S) (K : AV → S → Prop) : Prop :=
  match z with
  | .bool b => Chk (b = false ∧ vs.all isB = true) (K (.tup [.bool (getB ks vs k), .raw (.int .i64 (entIx ks k))]) (s.upd i (.map (updKs ks k) (entVs ks vs k (.bool false)))))
  | .int q n => Chk (n = 0 ∧ vs.all (isI q) = true) (K (.tup [.int q (getI ks vs k), .raw (.int .i64 (entIx ks k))]) (s.upd i (.map (updKs ks k) (entVs ks vs k (.int q 0)))))
  | _ => False
def vcMapEnt (P : Program) (t : TypeId) (x k : Operand) (s : S) (K : AV → S → Prop) : Prop :=
  match P.underlying t with
  | some (.map kt et) => match zeroOf P et with
    | some z => match s.ev x with
      | .own i => match lk s.rows i with
        | some (.map ks vs) => Chk (opndOk x ∧ opndOk k) (Chk (ElemZ P et z ∧ Maps.Keyed P kt ∧ KeyT P kt (s.ev k) ∧ KeysT P kt ks) (entK ks vs (s.ev k) z i s K))
        | _ => False
      | _ => False
    | none => False
  | _ => False
def vcEntStore (x st v : Operand) (s : S) (K : AV → S → Prop) : Prop :=
  match s.ev x with
  | .own i => match lk s.rows i with
    | some (.map ks vs) => match s.ev st with
      | .raw (.int _ n) => Chk (opndOk x ∧ opndOk st ∧ opndOk v) (Chk (0 ≤ n ∧ n < vs.length) (K .dead (s.upd i (.map ks (vs.set n.toNat (s.ev v))))))
      | _ => False
    | _ => False
  | _ => False
def vcRange (P : Program) (t : TypeId) (x : Operand) (s : S) (K : AV → S → Prop) : Prop :=
  match P.underlying t with
  | some (.map kt et) => match s.ev x with
    | .own i => match lk s.rows i with
      | some (.map ks vs) => Chk (opndOk x) (K (.ptr s.next 0) (s.add (.iter i ks.length [])))
      | _ => False
    | _ => False
  | _ => False
class BrN where
  k : AV → S → Prop
/-- A step onwards through a map: any entry that was not yet there. -/
def VcNext (ks vs : List AV) (i mp : Nat) (seen : List Nat) (s : S) [K : BrN] : Prop :=
  (∀ j kx vx, j ∉ seen → ks[j]? = some kx → vs[j]? = some vx → K.k (.tup [.bool true, kx, vx]) (s.upd i (.iter mp ks.length (seen ++ [j])))) ∧ ((∀ j, j < ks.length → j ∈ seen) → K.k (.tup [.bool false]) s)
@[congr] theorem VcNext_congr {ks ks' vs vs' : List AV} {i i' mp mp' : Nat} {seen seen' : List Nat} {s s' : S} {K : BrN} (h1 : ks = ks') (h2 : vs = vs') (h3 : i = i') (h4 : mp = mp') (h5 : seen = seen') (h6 : s = s') : @VcNext ks vs i mp seen s K = @VcNext ks' vs' i' mp' seen' s' K := by rw [h1, h2, h3, h4, h5, h6]
theorem VcNext.intro {ks vs : List AV} {i mp : Nat} {seen : List Nat} {s : S} {K : AV → S → Prop} (h1 : ∀ j kx vx, j ∉ seen → ks[j]? = some kx → vs[j]? = some vx → K (.tup [.bool true, kx, vx]) (s.upd i (.iter mp ks.length (seen ++ [j]))))
    (h2 : (∀ j, j < ks.length → j ∈ seen) → K (.tup [.bool false]) s) : @VcNext ks vs i mp seen s ⟨K⟩ := ⟨h1, h2⟩
def vcNext (x : Operand) (str : Bool) (s : S) (K : AV → S → Prop) : Prop :=
  match str with
  | true => False
  | false => match s.ev x with
    | .ptr i 0 => match lk s.rows i with
      | some (.iter mp since seen) => match lk s.rows mp with
        | some (.map ks vs) => Chk (opndOk x) (Chk (since = ks.length) (@VcNext ks vs i mp seen s ⟨K⟩))
        | _ => False
      | _ => False
    | _ => False

class BrE where
  k : AV → S → Prop
/-- The entry that a walk through a map stands at. -/
def VcEnt (ks vs : List AV) (j : Nat) (s : S) [K : BrE] : Prop := j < ks.length ∧ ∀ kx vx, ks[j]? = some kx → vs[j]? = some vx → K.k (.tup [kx, vx]) s
@[congr] theorem VcEnt_congr {ks ks' vs vs' : List AV} {j j' : Nat} {s s' : S} {K : BrE} (h1 : ks = ks') (h2 : vs = vs') (h3 : j = j') (h4 : s = s') : @VcEnt ks vs j s K = @VcEnt ks' vs' j' s' K := by rw [h1, h2, h3, h4]
theorem VcEnt.intro {ks vs : List AV} {j : Nat} {s : S} {K : AV → S → Prop} {kx vx : AV} (h1 : ks[j]? = some kx) (h2 : vs[j]? = some vx) (hk : K (.tup [kx, vx]) s) : @VcEnt ks vs j s ⟨K⟩ :=
  ⟨(List.getElem?_eq_some_iff.1 h1).1, fun kx' vx' e1 e2 => by rw [h1] at e1; rw [h2] at e2; cases e1; cases e2; exact hk⟩
def vcEntry (x : Operand) (s : S) (K : AV → S → Prop) : Prop :=
  match s.ev x with
  | .ptr i 0 => match lk s.rows i with
    | some (.iter mp since seen) => match seen.getLast? with
      | some j => match lk s.rows mp with
        | some (.map ks vs) => Chk (opndOk x) (Chk (since = ks.length) (@VcEnt ks vs j s ⟨K⟩))
        | _ => False
      | none => False
    | _ => False
  | _ => False

section
variable {P : Program} {w0 : World} {T0 : Bs} {o : Oper} {s : S} {K : AV → S → Prop}

theorem setBlock_heap {w : World} {g : Nat} {ob : Obj} (o' : Obj) (h : w.heap[g]? = some ob) : (setBlock w g o').heap[g]? = some o' := by
  have := (Array.getElem?_eq_some_iff.1 h).1
  simp [setBlock, Array.getElem?_setIfInBounds, this]
theorem setBlock_other {w : World} {g b : Nat} (o' : Obj) (h : b ≠ g) : (setBlock w g o').heap[b]? = w.heap[b]? := by
  simp [setBlock, Array.getElem?_setIfInBounds, Ne.symm h]
theorem BelowG.setBlock {w0 w : World} (h : BelowG (fun b => T0.g b ∧ T0.a b) w0 w) {g : Nat} (hg : ownB T0 w0.heap.size g) (o' : Obj) : BelowG (fun b => T0.g b ∧ T0.a b) w0 (setBlock w g o') :=
  h.step rfl rfl rfl (by simp [Go.ChangeMaps.setBlock]) fun k hk hk2 => setBlock_other o' (fun e => by
    subst e
    rcases hg with hg | hg
    · omega
    · exact hk2 hg)

theorem vcMakeMap_sound {t : TypeId} {r : Option Operand} (ho : o.op = .makeMap t r) (h : vcMakeMap P t r s K) : OpSem P w0 T0 o s K := by
  unfold vcMakeMap at h
  cases r with
  | some _ => exact h.elim
  | none =>
    refine OpSem.mem fun H a w m hm => ?_
    have hnew := hm.new (w' := w.alloc (.map #[] 0)) (hm.below.alloc _) (fun b hb => Below.heap_alloc w _ b hb) (.map [] []) (.map (some w.heap.size)) (fun b hb => by cases hb; exact Nat.le_refl _)
      (fun c hle hw => ⟨w.heap.size, #[], 0, rfl, .inl hm.lt, .nil, .nil, fun i e he => by simp at he, ⟨rfl, by simp⟩, by rw [hw]; exact heap_alloc_new w _⟩)
    refine ⟨_, _, _, _, _, h, .inl ?_, hold_own hnew rfl⟩
    unfold execOp; rw [ho]
    have := run_makeMap (P := P) t w
    simp [this]

/-- A map that is the call's own is written. -/
theorem map_write {H : List (AV × Value)} {a : Act} {w : World} {m : Nat → Value} (hm : RepM w0 T0 H s a w m) {i : Nat} {ks vs : List AV} (hi : lk s.rows i = some (.map ks vs)) {g : Nat} {es : Array MapEntry} {clock : Nat} (hv : m i = .map (some g)) (hg : ownB T0 w0.heap.size g) (hh : w.heap[g]? = some (.map es clock))
    {ks' vs' : List AV} {es' : Array MapEntry} {clock' : Nat} (h1 : RvT (ctxOf T0 w0.heap.size m s w) ks' (es'.toList.map MapEntry.key)) (h2 : RvT (ctxOf T0 w0.heap.size m s w) vs' (es'.toList.map MapEntry.val)) (h3 : ∀ (i : Nat) (e : MapEntry), es'[i]? = some e → e.born = i) (h4 : MapG es' clock') :
    RepM w0 T0 H (s.upd i (.map ks' vs')) a (setBlock w g (.map es' clock')) m :=
  hm.upd (BelowG.setBlock hm.below hg _) hi (fun b hb hne => setBlock_other _ (fun e => hne (by rw [hv, e]; rfl))) _ (fun c hle hw hmm hN => ⟨g, es', clock', hv, hg, h1.mono hle, h2.mono hle, h3, h4, by rw [hw]; exact setBlock_heap _ hh⟩)

theorem map_push {c : Ctx} {ks vs : List AV} {es : Array MapEntry} {clock : Nat} {k v : AV} {kv vv : Value} (h1 : RvT c ks (es.toList.map MapEntry.key)) (h2 : RvT c vs (es.toList.map MapEntry.val)) (h3 : ∀ (i : Nat) (e : MapEntry), es[i]? = some e → e.born = i) (h4 : MapG es clock)
    (hk : Rv c k kv) (hv : Rv c v vv) (hno : ∀ e ∈ es.toList, e.key ≠ kv) :
    RvT c (ks ++ [k]) ((es.push ⟨kv, vv, clock⟩).toList.map MapEntry.key) ∧ RvT c (vs ++ [v]) ((es.push ⟨kv, vv, clock⟩).toList.map MapEntry.val) ∧ (∀ (i : Nat) (e : MapEntry), (es.push ⟨kv, vv, clock⟩)[i]? = some e → e.born = i) ∧ MapG (es.push ⟨kv, vv, clock⟩) (clock + 1) := by
  obtain ⟨rfl, hn⟩ := h4
  refine ⟨?_, ?_, ?_, by simp [Array.size_push], ?_⟩
  · simp only [Array.toList_push, List.map_append, List.map_cons, List.map_nil]
    exact h1.append (.cons _ _ _ _ hk .nil)
  · simp only [Array.toList_push, List.map_append, List.map_cons, List.map_nil]
    exact h2.append (.cons _ _ _ _ hv .nil)
  · intro i e he
    rw [Array.getElem?_push] at he
    split at he
    · rename_i e1; cases he; exact e1.symm
    · exact h3 i e he
  · simp only [Array.toList_push, List.map_append, List.map_cons, List.map_nil]
    refine List.nodup_append.2 ⟨hn, by simp, fun a ha b hb => ?_⟩
    simp only [List.mem_singleton] at hb
    subst hb
    obtain ⟨x, hx, rfl⟩ := List.mem_map.1 ha
    exact hno x hx
theorem map_modify {c : Ctx} {ks vs : List AV} {es : Array MapEntry} {clock : Nat} {j : Nat} {v : AV} {vv : Value} (f : MapEntry → MapEntry) (h1 : RvT c ks (es.toList.map MapEntry.key)) (h2 : RvT c vs (es.toList.map MapEntry.val)) (h3 : ∀ (i : Nat) (e : MapEntry), es[i]? = some e → e.born = i) (h4 : MapG es clock)
    (hb : ∀ e, (f e).born = e.born) (hk : ∀ e, es[j]? = some e → (f e).key = e.key) (hf : ∀ e, (f e).val = vv) (hv : Rv c v vv) :
    RvT c ks ((es.modify j f).toList.map MapEntry.key) ∧ RvT c (vs.set j v) ((es.modify j f).toList.map MapEntry.val) ∧ (∀ (i : Nat) (e : MapEntry), (es.modify j f)[i]? = some e → e.born = i) ∧ MapG (es.modify j f) clock := by
  have hkeys := MapKept.modify_keys (es := es) j f hk
  refine ⟨by rw [hkeys]; exact h1, ?_, ?_, by rw [Array.size_modify]; exact h4.1, by rw [hkeys]; exact h4.2⟩
  · have e : (es.modify j f).toList.map MapEntry.val = (es.toList.map MapEntry.val).set j vv := by
      apply List.ext_getElem?
      intro i
      simp only [List.getElem?_map, Array.getElem?_toList, Array.getElem?_modify, List.getElem?_set, List.length_map, Array.length_toList]
      by_cases hij : j = i
      · subst hij
        by_cases hlt : j < es.size
        · simp [hlt, hf]
        · simp [hlt, Array.getElem?_eq_none (Nat.le_of_not_lt hlt)]
      · simp [hij]
    rw [e]
    exact h2.set j hv
  · intro i e he
    rw [Array.getElem?_modify] at he
    split at he
    · rename_i e1; subst e1
      simp only [Option.map_eq_some_iff] at he
      obtain ⟨e', he', rfl⟩ := he
      rw [hb]; exact h3 _ e' he'
    · exact h3 i e he

theorem vcMapUpd_sound {t : TypeId} {x k v : Operand} (ho : o.op = .mapUpdate t x k v) (h : vcMapUpd P t x k v s K) : OpSem P w0 T0 o s K := by
  unfold vcMapUpd at h
  cases ht : P.underlying t with
  | none => rw [ht] at h; exact h.elim
  | some d =>
    rw [ht] at h
    cases d with
    | map kt et =>
      dsimp only at h
      refine OpSem.mem fun H a w m hm => ?_
      cases hx : s.ev x with
      | own i =>
        rw [hx] at h
        dsimp only at h
        cases hi : lk s.rows i with
        | none => rw [hi] at h; exact h.elim
        | some it =>
          rw [hi] at h
          cases it with
          | map ks vs =>
            obtain ⟨⟨hox, hok, hov⟩, ⟨hK, hkt, hks⟩, hk⟩ := h
            have rx := hm.ev x hox
            have rk := hm.ev k hok
            have rv := hm.ev v hov
            rw [hx] at rx
            obtain ⟨g, es, clock, hv, hg, h1, h2, h3, h4, hh⟩ := (hm.rows i _ hi).2
            have hvx : a.eval x = .map (some g) := by
              generalize a.eval x = vx at rx
              cases rx with | own _ _ _ => exact hv
            obtain ⟨hvk, hwf⟩ := keyAV_val _ hkt.1 rk
            obtain ⟨lx, hlx⟩ := hkt.2 hwf
            rw [← hvk] at hlx
            have hck : (Instr.checkKey false 10000 kt (a.eval k)).run P w = .ok () w := hK.check w false hlx
            have hst := hK.stays w hlx
            have hget : (getObj g).run P w = .ok (.map es clock) w := MapKept.run_getObj_map hh
            have hset : ∀ o', (setObj g o').run P w = .ok () (setBlock w g o') := fun o' => MapKept.run_setObj_map o' hh
            rcases find_run w hK hks hkt h1 rk h4.2 with ⟨e1, e2, e3⟩ | ⟨j, e, e1, e2, e3, e4⟩
            · obtain ⟨q1, q2, q3, q4⟩ := map_push h1 h2 h3 h4 rk rv e3
              have hrep := map_write hm hi hv hg hh q1 q2 q3 q4
              refine ⟨.dead, undef, _, _, _, ?_, .inr ⟨?_, rfl⟩, hrep.hold (.dead _)⟩
              · simpa only [updKs, updVs, e1] using hk
              · unfold execOp; rw [ho]
                simp [Instr.mapUpdate, run_underlying ht, hvx, Sem.run_bind, Result.andThen, hget, hck, e2, hset]
            · obtain ⟨q1, q2, q3, q4⟩ := map_modify (j := j) (fun e => { e with key := a.eval k, val := a.eval v }) h1 h2 h3 h4 (fun _ => rfl) (fun e' he' => by rw [e2] at he'; cases he'; exact e3.symm) (fun _ => rfl) rv
              have hrep := map_write hm hi hv hg hh q1 q2 q3 q4
              refine ⟨.dead, undef, _, _, _, ?_, .inr ⟨?_, rfl⟩, hrep.hold (.dead _)⟩
              · simpa only [updKs, updVs, e1] using hk
              · unfold execOp; rw [ho]
                simp [Instr.mapUpdate, run_underlying ht, hvx, Sem.run_bind, Result.andThen, hget, hck, e4, hset, e2, e3, hst]
          | _ => exact h.elim
      | _ => rw [hx] at h; exact h.elim
    | _ => exact h.elim

theorem vcMapEnt_sound {t : TypeId} {x k : Operand} (ho : o.op = .mapEntry t x k) (h : vcMapEnt P t x k s K) : OpSem P w0 T0 o s K := by
  unfold vcMapEnt at h
  cases ht : P.underlying t with
  | none => rw [ht] at h; exact h.elim
  | some d =>
    rw [ht] at h
    cases d with
    | map kt et =>
      dsimp only at h
      cases hz : zeroOf P et with
      | none => rw [hz] at h; exact h.elim
      | some z =>
      rw [hz] at h
      dsimp only at h
      refine OpSem.mem fun H a w m hm => ?_
      cases hx : s.ev x with
      | own i =>
        rw [hx] at h
        dsimp only at h
        cases hi : lk s.rows i with
        | none => rw [hi] at h; exact h.elim
        | some it =>
          rw [hi] at h
          cases it with
          | map ks vs =>
            obtain ⟨⟨hox, hok⟩, ⟨hez, hK, hkt, hks⟩, hk⟩ := h
            obtain ⟨inf, hinf, hiz, his, hib⟩ := hez.ex
            have hzr : (zeroValue et).run P w = .ok z w := by simp [zeroValue, typeInfo, hinf, hiz]
            have rx := hm.ev x hox
            have rk := hm.ev k hok
            rw [hx] at rx
            obtain ⟨g, es, clock, hv, hg, h1, h2, h3, h4, hh⟩ := (hm.rows i _ hi).2
            have hvx : a.eval x = .map (some g) := by
              generalize a.eval x = vx at rx
              cases rx with | own _ _ _ => exact hv
            obtain ⟨hvk, hwf⟩ := keyAV_val _ hkt.1 rk
            obtain ⟨lx, hlx⟩ := hkt.2 hwf
            rw [← hvk] at hlx
            have hck : (Instr.checkKey false 10000 kt (a.eval k)).run P w = .ok () w := hK.check w false hlx
            have hst := hK.stays w hlx
            have hget : (getObj g).run P w = .ok (.map es clock) w := MapKept.run_getObj_map hh
            have hset : ∀ o', (setObj g o').run P w = .ok () (setBlock w g o') := fun o' => MapKept.run_setObj_map o' hh
            have hlen : ks.length = es.size := by have := h1.length; simpa using this.symm
            rcases find_run w hK hks hkt h1 rk h4.2 with ⟨e1, e2, e3⟩ | ⟨j, e, e1, e2, e3, e4⟩
            · have key : ∀ y : AV, Rv (ctxOf T0 w0.heap.size m s w) y z → K (.tup [y, .raw (.int .i64 (entIx ks (s.ev k)))]) (s.upd i (.map (updKs ks (s.ev k)) (entVs ks vs (s.ev k) y))) →
                  ∃ r v s' w' m', K r s' ∧ ((execOp a.eval o).run P w = .ok (.value v) w' ∨ ((execOp a.eval o).run P w = .ok .skip w' ∧ v = undef)) ∧ RepM w0 T0 ((r, v) :: H) s' a w' m' := by
                intro y hy hk
                obtain ⟨q1, q2, q3, q4⟩ := map_push h1 h2 h3 h4 rk hy e3
                have hrep := map_write hm hi hv hg hh q1 q2 q3 q4
                have hc : clock = es.size := h4.1
                refine ⟨_, .tuple #[z, .int .i64 (clock : Nat)], _, setBlock w g (.map (es.push ⟨a.eval k, z, clock⟩) (clock + 1)), m, hk, .inl ?_, ?_⟩
                · unfold execOp; rw [ho]
                  simp [Instr.mapEntry, run_underlying ht, hvx, Sem.run_bind, Result.andThen, hget, hck, e2, hset, hzr, goInt]
                · simp only [updKs, entVs, e1, entIx, hlen, ← hc]
                  have hle : CtxLe (ctxOf T0 w0.heap.size m s w) (ctxOf T0 w0.heap.size m (s.upd i (.map (ks ++ [s.ev k]) (vs ++ [y]))) (setBlock w g (.map (es.push ⟨a.eval k, z, clock⟩) (clock + 1)))) := by
                    refine ctxLe_of (Nat.le_refl _) (fun _ _ => rfl) (fun b hb hno => setBlock_other _ (fun e => hno i _ hi (by rw [hv, e]; rfl))) ?_
                    intro i' it' b hi' hb _
                    have hi'' : lk (put s.rows i (.map (ks ++ [s.ev k]) (vs ++ [y]))) i' = some it' := hi'
                    rw [lk_put] at hi''
                    split at hi''
                    · rename_i e; subst e; exact ⟨_, _, hi, hb⟩
                    · exact ⟨_, _, hi'', hb⟩
                  exact hrep.hold (.tup _ [z, .int .i64 (clock : Nat)] (.cons _ _ _ _ (hy.mono hle) (.cons _ _ _ _ (.raw _) .nil)))
              unfold entK at hk
              split at hk
              · obtain ⟨⟨rfl, hall⟩, hk⟩ := hk
                refine key _ (.bool false) ?_
                simpa only [getB, getV, e1, Option.bind_none] using hk
              · obtain ⟨⟨rfl, hall⟩, hk⟩ := hk
                refine key _ (.int _ 0 (InK_zero _)) ?_
                simpa only [getI, getV, e1, Option.bind_none] using hk
              · exact hk.elim
            · obtain ⟨y, hy, hyv⟩ := h2.get' (i := j) (v := e.val) (by simp [e2])
              have hmem : y ∈ vs := List.mem_of_getElem? hy
              have key : K (.tup [y, .raw (.int .i64 (entIx ks (s.ev k)))]) (s.upd i (.map ks vs)) →
                  ∃ r v s' w' m', K r s' ∧ ((execOp a.eval o).run P w = .ok (.value v) w' ∨ ((execOp a.eval o).run P w = .ok .skip w' ∧ v = undef)) ∧ RepM w0 T0 ((r, v) :: H) s' a w' m' := by
                intro hk
                have hkeys := MapKept.modify_keys (es := es) j (fun e => { e with key := a.eval k }) (fun e' he' => by rw [e2] at he'; cases he'; exact e3.symm)
                have hvals : (es.modify j fun e => { e with key := a.eval k }).toList.map MapEntry.val = es.toList.map MapEntry.val := by
                  apply List.ext_getElem?
                  intro i
                  simp only [List.getElem?_map, Array.getElem?_toList, Array.getElem?_modify]
                  by_cases hij : j = i
                  · subst hij; cases es[j]? <;> simp
                  · simp [hij]
                have hrep := map_write hm hi hv hg hh (es' := es.modify j fun e => { e with key := a.eval k }) (clock' := clock) (by rw [hkeys]; exact h1) (by rw [hvals]; exact h2) (by
                  intro i e he
                  rw [Array.getElem?_modify] at he
                  split at he
                  · rename_i e1; subst e1
                    simp only [Option.map_eq_some_iff] at he
                    obtain ⟨e', he', rfl⟩ := he
                    exact h3 _ e' he'
                  · exact h3 i e he) ⟨by rw [Array.size_modify]; exact h4.1, by rw [hkeys]; exact h4.2⟩
                refine ⟨_, .tuple #[e.val, .int .i64 (j : Nat)], _, setBlock w g (.map (es.modify j fun e => { e with key := a.eval k }) clock), m, hk, .inl ?_, ?_⟩
                · unfold execOp; rw [ho]
                  have hbj : e.born = j := h3 j e e2
                  simp [Instr.mapEntry, run_underlying ht, hvx, Sem.run_bind, Result.andThen, hget, hck, e4, hset, e2, e3, hst, goInt, hbj]
                · simp only [entIx, e1]
                  have hle : CtxLe (ctxOf T0 w0.heap.size m s w) (ctxOf T0 w0.heap.size m (s.upd i (.map ks vs)) (setBlock w g (.map (es.modify j fun e => { e with key := a.eval k }) clock))) := by
                    refine ctxLe_of (Nat.le_refl _) (fun _ _ => rfl) (fun b hb hno => setBlock_other _ (fun e => hno i _ hi (by rw [hv, e]; rfl))) ?_
                    intro i' it' b hi' hb _
                    have hi'' : lk (put s.rows i (.map ks vs)) i' = some it' := hi'
                    rw [lk_put] at hi''
                    split at hi''
                    · rename_i e; subst e; exact ⟨_, _, hi, hb⟩
                    · exact ⟨_, _, hi'', hb⟩
                  exact hrep.hold (.tup _ [e.val, .int .i64 (j : Nat)] (.cons _ _ _ _ (hyv.mono hle) (.cons _ _ _ _ (.raw _) .nil)))
              unfold entK at hk
              split at hk
              · obtain ⟨⟨rfl, hall⟩, hk⟩ := hk
                have := List.all_eq_true.1 hall y hmem
                cases y <;> simp [isB] at this
                refine key ?_
                simpa only [updKs, entVs, getB, getV, e1, Option.bind_some, hy] using hk
              · obtain ⟨⟨rfl, hall⟩, hk⟩ := hk
                have := List.all_eq_true.1 hall y hmem
                cases y <;> simp [isI] at this
                subst this
                refine key ?_
                simpa only [updKs, entVs, getI, getV, e1, Option.bind_some, hy] using hk
              · exact hk.elim
          | _ => exact h.elim
      | _ => rw [hx] at h; exact h.elim
    | _ => exact h.elim

theorem vcEntStore_sound {t : TypeId} {x st v : Operand} (ho : o.op = .entryStore t x st v) (h : vcEntStore x st v s K) : OpSem P w0 T0 o s K := by
  unfold vcEntStore at h
  refine OpSem.mem fun H a w m hm => ?_
  cases hx : s.ev x with
  | own i =>
    rw [hx] at h
    dsimp only at h
    cases hi : lk s.rows i with
    | none => rw [hi] at h; exact h.elim
    | some it =>
      rw [hi] at h
      cases it with
      | map ks vs =>
        dsimp only at h
        split at h
        · rename_i q n hst
          obtain ⟨⟨hox, hos, hov⟩, ⟨h0, hlt⟩, hk⟩ := h
          have rx := hm.ev x hox
          have rs := hm.ev st hos
          have rv := hm.ev v hov
          rw [hx] at rx
          rw [hst] at rs
          obtain ⟨g, es, clock, hv, hg, h1, h2, h3, h4, hh⟩ := (hm.rows i _ hi).2
          have hvx : a.eval x = .map (some g) := by
            generalize a.eval x = vx at rx
            cases rx with | own _ _ _ => exact hv
          have hvs : a.eval st = .int q n := by
            generalize a.eval st = vx at rs
            cases rs; rfl
          have hget : (getObj g).run P w = .ok (.map es clock) w := MapKept.run_getObj_map hh
          have hset : ∀ o', (setObj g o').run P w = .ok () (setBlock w g o') := fun o' => MapKept.run_setObj_map o' hh
          have hlen : vs.length = es.size := by have := h2.length; simpa using this.symm
          obtain ⟨q1, q2, q3, q4⟩ := map_modify (j := n.toNat) (fun e => { e with val := a.eval v }) h1 h2 h3 h4 (fun _ => rfl) (fun _ _ => rfl) (fun _ => rfl) rv
          have hrep := map_write hm hi hv hg hh q1 q2 q3 q4
          refine ⟨.dead, undef, _, _, _, hk, .inr ⟨?_, rfl⟩, hrep.hold (.dead _)⟩
          have hfi : es.findIdx? (fun e => (e.born : Int) == n) = some n.toNat := by
            rw [Array.findIdx?_eq_some_iff_getElem]
            refine ⟨by omega, ?_, fun j hj => ?_⟩
            · have := h3 n.toNat _ (Array.getElem?_eq_getElem (by omega : n.toNat < es.size))
              simp only [this, beq_iff_eq]; omega
            · have hj' : j < es.size := by omega
              have := h3 j _ (Array.getElem?_eq_getElem hj')
              simp only [this, beq_iff_eq, Bool.not_eq_true]
              simp; omega
          unfold execOp; rw [ho]
          simp [Instr.entryStore, hvx, hvs, asInt, asIntOf, Sem.run_bind, Result.andThen, hget, hfi, hset]
        · exact h.elim
      | _ => exact h.elim
  | _ => rw [hx] at h; exact h.elim

theorem vcRange_sound {t : TypeId} {x : Operand} (ho : o.op = .range t x) (h : vcRange P t x s K) : OpSem P w0 T0 o s K := by
  unfold vcRange at h
  cases ht : P.underlying t with
  | none => rw [ht] at h; exact h.elim
  | some d =>
    rw [ht] at h
    cases d with
    | map kt et =>
      dsimp only at h
      refine OpSem.mem fun H a w m hm => ?_
      cases hx : s.ev x with
      | own i =>
        rw [hx] at h
        dsimp only at h
        cases hi : lk s.rows i with
        | none => rw [hi] at h; exact h.elim
        | some it =>
          rw [hi] at h
          cases it with
          | map ks vs =>
            obtain ⟨hox, hk⟩ := h
            have rx := hm.ev x hox
            rw [hx] at rx
            obtain ⟨hin, g, es, clock, hv, hg, h1, h2, h3, h4, hh⟩ := hm.rows i _ hi
            have hvx : a.eval x = .map (some g) := by
              generalize a.eval x = vx at rx
              cases rx with | own _ _ _ => exact hv
            have hlen : ks.length = es.size := by have := h1.length; simpa using this.symm
            have hc : clock = ks.length := by rw [hlen]; exact h4.1
            have hnew := hm.new (w' := w.alloc (.mapIter (some g) clock #[] clock)) (hm.below.alloc _) (fun b hb => Below.heap_alloc w _ b hb) (.iter i ks.length []) (.pointer (some ⟨w.heap.size, 0, none⟩)) (fun b hb => by cases hb; exact Nat.le_refl _)
              (fun c hle hw => ⟨w.heap.size, g, #[], clock, rfl, .inl hm.lt, Nat.lt_of_lt_of_le hin hle.n, by rw [hle.m i hin]; exact hv, rfl, hc, by rw [hw, ← hc]; exact heap_alloc_new w _⟩)
            refine ⟨_, _, _, _, _, hk, .inl ?_, hnew.hold (.ptr s.next 0 w.heap.size (Nat.lt_succ_self _) (by show blk (Fv.upd m s.next _ s.next) = _; rw [upd_same]; rfl))⟩
            unfold execOp; rw [ho]
            have hr := run_range_map (P := P) w t kt et g es clock ht hh
            simp [hvx, hr]
          | _ => exact h.elim
      | _ => rw [hx] at h; exact h.elim
    | _ => exact h.elim

theorem vcNext_sound {x : Operand} {str : Bool} (ho : o.op = .next x str) (h : vcNext x str s K) : OpSem P w0 T0 o s K := by
  unfold vcNext at h
  cases str with
  | true => exact h.elim
  | false =>
    dsimp only at h
    refine OpSem.mem fun H a w m hm => ?_
    split at h
    · rename_i i hx
      split at h
      · rename_i mp since seen hi
        split at h
        · rename_i ks vs hmp
          obtain ⟨hox, rfl, hn1, hn2⟩ := h
          have rx := hm.ev x hox
          rw [hx] at rx
          obtain ⟨hin, gi, q, sn, last, hvi, hgi, hmpn, hmpq, rfl, hlast, hhi⟩ := hm.rows i _ hi
          obtain ⟨g, es, clock, hv, hg, h1, h2, h3, h4, hh⟩ := (hm.rows mp _ hmp).2
          have hqg : q = g := by
            have hmpq' : m mp = .map (some q) := hmpq
            rw [hv] at hmpq'; cases hmpq'; rfl
          subst hqg
          have hvx : a.eval x = .pointer (some ⟨gi, 0, none⟩) := by
            generalize a.eval x = vx at rx
            cases rx with
            | ptr _ _ g' _ hg' =>
              have : blk (m i) = some g' := hg'
              rw [hvi] at this; cases this; rfl
          have hlen : ks.length = es.size := by have := h1.length; simpa using this.symm
          have hc : clock = ks.length := by rw [hlen]; exact h4.1
          have hold : ∀ y ∈ es.toList, y.born < ks.length := fun y hy => by
            obtain ⟨j, hj⟩ := List.getElem?_of_mem hy
            have hj' : es[j]? = some y := by simpa using hj
            rw [h3 j y hj', hlen]; exact (Array.getElem?_eq_some_iff.1 hj').1
          have hinn : ∀ e, e ∈ (leftOf es seen.toArray).toList → ∃ j, es[j]? = some e ∧ e.born = j ∧ j ∉ seen := by
            intro e he
            simp only [leftOf, Array.toList_filter, List.mem_filter, Bool.not_eq_true', Array.contains_eq_mem, List.mem_toArray, decide_eq_false_iff_not] at he
            obtain ⟨j, hj⟩ := List.getElem?_of_mem he.1
            have hj' : es[j]? = some e := by simpa using hj
            have := h3 j e hj'
            exact ⟨j, hj', this, by rw [← this]; exact he.2⟩
          have hall0 : (leftOf es seen.toArray).size = 0 → ∀ j, j < ks.length → j ∈ seen := by
            intro hz j hj
            by_cases hjs : j ∈ seen
            · exact hjs
            · have hj' : j < es.size := by omega
              have hm0 : es[j] ∈ (leftOf es seen.toArray).toList := by
                simp only [leftOf, Array.toList_filter, List.mem_filter, Bool.not_eq_true', Array.contains_eq_mem, List.mem_toArray, decide_eq_false_iff_not]
                exact ⟨by simp, by rw [h3 j _ (Array.getElem?_eq_getElem hj')]; exact hjs⟩
              have : (leftOf es seen.toArray).toList = [] := List.eq_nil_of_length_eq_zero (by simpa using hz)
              rw [this] at hm0; cases hm0
          rcases run_next_at (P := P) w o.type gi q ks.length last seen.toArray es clock hhi hh hold (Nat.le_of_eq hlast.symm) with ⟨hz, hr⟩ | ⟨e, he, w1, hw1, hr⟩
          · refine ⟨_, _, s, w, m, hn2 (hall0 hz), .inl ?_, hm.hold (.tup _ [.bool false] (.cons _ _ _ _ (.bool false) .nil))⟩
            unfold execOp; rw [ho]; simp [hvx, hr]
          · obtain ⟨j, hj1, hj2, hj3⟩ := hinn e he
            obtain ⟨kx, hkx, hkv⟩ := h1.get' (i := j) (v := e.key) (by simp [hj1])
            obtain ⟨vx, hvx2, hvv⟩ := h2.get' (i := j) (v := e.val) (by simp [hj1])
            have hm1 : RepM w0 T0 H s a w1 m := by
              rcases hw1 with rfl | rfl
              · exact hm
              · exact hm.drew
            have hh1 : w1.heap = w.heap := by rcases hw1 with rfl | rfl <;> rfl
            have hle0 : CtxLe (ctxOf T0 w0.heap.size m s w) (ctxOf T0 w0.heap.size m s w1) := ⟨Nat.le_refl _, fun _ _ => rfl, fun b hb _ => ⟨hb, by show w1.heap[b]? = _; rw [hh1]; rfl⟩⟩
            have hrep : RepM w0 T0 H (s.upd i (.iter mp ks.length (seen ++ [j]))) a (setBlock w1 gi (.mapIter (some q) ks.length (seen.toArray.push e.born) clock)) m :=
              hm1.upd (BelowG.setBlock hm1.below hgi _) hi (fun b hb hne => setBlock_other _ (fun e => hne (by rw [hvi, e]; rfl))) _ (fun c hle hw hmm hN => ⟨gi, q, seen.toArray.push e.born, clock, hvi, hgi, by rw [hN]; exact hmpn, by rw [hmm]; exact hmpq, by rw [hj2]; simp, hc, by rw [hw]; exact setBlock_heap (ob := .mapIter (some q) ks.length seen.toArray last) _ (by rw [hh1]; exact hhi)⟩)
            refine ⟨_, .tuple #[.bool true, e.key, e.val], _, _, m, hn1 j kx vx hj3 hkx hvx2, .inl ?_, hrep.hold ?_⟩
            · unfold execOp; rw [ho]; simp [hvx, hr]
            · have hle : CtxLe (ctxOf T0 w0.heap.size m s w1) (ctxOf T0 w0.heap.size m (s.upd i (.iter mp ks.length (seen ++ [j]))) (setBlock w1 gi (.mapIter (some q) ks.length (seen.toArray.push e.born) clock))) := by
                refine ctxLe_of (Nat.le_refl _) (fun _ _ => rfl) (fun b hb hno => setBlock_other _ (fun e => hno i _ hi (by rw [hvi, e]; rfl))) ?_
                intro i' it' b hi' hb _
                have hi'' : lk (put s.rows i (.iter mp ks.length (seen ++ [j]))) i' = some it' := hi'
                rw [lk_put] at hi''
                split at hi''
                · rename_i e; subst e; exact ⟨_, _, hi, hb⟩
                · exact ⟨_, _, hi'', hb⟩
              exact .tup _ [.bool true, e.key, e.val] (.cons _ _ _ _ (.bool true) (.cons _ _ _ _ ((hkv.mono hle0).mono hle) (.cons _ _ _ _ ((hvv.mono hle0).mono hle) .nil)))
        · exact h.elim
      · exact h.elim
    · exact h.elim

theorem vcEntry_sound {x : Operand} (ho : o.op = .entry x) (h : vcEntry x s K) : OpSem P w0 T0 o s K := by
  unfold vcEntry at h
  refine OpSem.mem fun H a w m hm => ?_
  split at h
  · rename_i i hx
    split at h
    · rename_i mp since seen hi
      split at h
      · rename_i j hj
        split at h
        · rename_i ks vs hmp
          obtain ⟨hox, rfl, hn1, hn2⟩ := h
          have rx := hm.ev x hox
          rw [hx] at rx
          obtain ⟨hin, gi, q, sn, last, hvi, hgi, hmpn, hmpq, rfl, hlast, hhi⟩ := hm.rows i _ hi
          obtain ⟨g, es, clock, hv, hg, h1, h2, h3, h4, hh⟩ := (hm.rows mp _ hmp).2
          have hqg : q = g := by
            have hmpq' : m mp = .map (some q) := hmpq
            rw [hv] at hmpq'; cases hmpq'; rfl
          subst hqg
          have hvx : a.eval x = .pointer (some ⟨gi, 0, none⟩) := by
            generalize a.eval x = vx at rx
            cases rx with
            | ptr _ _ g' _ hg' =>
              have : blk (m i) = some g' := hg'
              rw [hvi] at this; cases this; rfl
          have hlen : ks.length = es.size := by have := h1.length; simpa using this.symm
          have hc : clock = ks.length := by rw [hlen]; exact h4.1
          have hj' : j < es.size := by omega
          obtain ⟨sn', rfl⟩ : ∃ l, seen = l ++ [j] := by
            rw [List.getLast?_eq_some_iff] at hj; exact hj
          have hb : es[j].born = j := h3 j _ (Array.getElem?_eq_getElem hj')
          have hnd : (es.toList.map (·.born)).Nodup := by
            have e : es.toList.map (·.born) = List.range es.size := by
              refine List.ext_getElem (by simp) fun k k1 k2 => ?_
              have hk : k < es.size := by simpa using k1
              simp only [List.getElem_map, List.getElem_range, Array.getElem_toList]
              exact h3 k _ (Array.getElem?_eq_getElem hk)
            rw [e]; exact List.nodup_range
          have hr := run_entry_at (P := P) w gi q ks.length sn'.toArray es clock es[j] (by have h' := hhi; rw [hlast] at h'; rw [hb, hc]; refine Eq.trans (b := (ctxOf T0 w0.heap.size m s w).w.heap[gi]?) rfl (h'.trans (by simp))) hh (by simp) hnd
          obtain ⟨kx, hkx, hkv⟩ := h1.get' (i := j) (v := es[j].key) (by simp [hj'])
          obtain ⟨vx, hvx2, hvv⟩ := h2.get' (i := j) (v := es[j].val) (by simp [hj'])
          refine ⟨_, .tuple #[es[j].key, es[j].val], s, w, m, hn2 kx vx hkx hvx2, .inl ?_, hm.hold (.tup _ [es[j].key, es[j].val] (.cons _ _ _ _ hkv (.cons _ _ _ _ hvv .nil)))⟩
          unfold execOp; rw [ho]; simp [hvx, hr]
        · exact h.elim
      · exact h.elim
    · exact h.elim
  · exact h.elim
end
end Go.Fv
