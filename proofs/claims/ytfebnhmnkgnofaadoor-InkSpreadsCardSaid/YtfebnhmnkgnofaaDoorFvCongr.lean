/-
  Congruences: only the state of a word is reckoned out, not what stands behind it.
-/
import Derived.Test.YtfebnhmnkgnofaaDoorFvDraw
import Derived.Test.YtfebnhmnkgnofaaDoorFvCalls
namespace Go.Fv
set_option linter.unusedVariables false

section
variable {P : Program} {w0 : World} {T0 : Nat → Prop} {s s' : S} {K : AV → S → Prop}
@[congr] theorem vcGo_congr {ops : Array Oper} {o : Oper} {k : S → Prop} (h : s = s') : vcGo P w0 T0 ops o s k = vcGo P w0 T0 ops o s' k := by rw [h]
@[congr] theorem vcWhen_congr {o : Oper} {c c' : Bool} {s1 s2 : S} {k : S → Prop} (hc : c = c') (h : s = s') : vcWhen P w0 T0 o c s s1 s2 k = vcWhen P w0 T0 o c' s' s1 s2 k := by rw [hc, h]
@[congr] theorem vcOps_congr {ops : Array Oper} {l : List Oper} {k : S → Prop} (h : s = s') : vcOps P w0 T0 ops l s k = vcOps P w0 T0 ops l s' k := by rw [h]
@[congr] theorem vcTree_congr {ops : Array Oper} {l : DTree} {k : S → Prop} (h : s = s') : vcTree P w0 T0 ops l s k = vcTree P w0 T0 ops l s' k := by rw [h]
@[congr] theorem vcCode_congr {b0 : Nat} {c : Code} {Q : Exit → S → Prop} (h : s = s') : vcCode P w0 T0 b0 c Q s = vcCode P w0 T0 b0 c Q s' := by rw [h]
@[congr] theorem vcPut_congr {d : Option Nat} {v v' : AV} {k : S → Prop} (hv : v = v') (h : s = s') : vcPut d v s k = vcPut d v' s' k := by rw [hv, h]
@[congr] theorem vcOp_congr {o : Oper} (h : s = s') : vcOp P w0 T0 o s K = vcOp P w0 T0 o s' K := by rw [h]
@[congr] theorem vcCallOp_congr {c : Call} (h : s = s') : vcCallOp P w0 T0 c s K = vcCallOp P w0 T0 c s' K := by rw [h]
end
end Go.Fv
