/-
  The walk of drawn regions, in the set.
-/
import Derived.Test.YtfebnhmnkgnofaaDoorFvSet
import Derived.Test.YtfebnhmnkgnofaaDoorFvNil
import Derived.Test.YtfebnhmnkgnofaaDoorFvCaps
namespace Go.Fv
attribute [go_sem] true_implies LetW_q LetW_q1 vcLex gGo_some bGo_true bGo_false eGo_mk qGo_val qGo_lin qGo_call lxPut lxEnv dstOk putS qCond qRes rOps peelV onlyE onlyP gd qVc redo1 redo accPut ksOf peelC esMem isLin Option.toList_some Option.toList_none renL_caps belowL_caps
end Go.Fv
