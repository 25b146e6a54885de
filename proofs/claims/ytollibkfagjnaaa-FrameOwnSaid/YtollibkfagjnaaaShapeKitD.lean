/- Frames: lent, kept, held against each other. -/
import Derived.Test.YtollibkfagjnaaaShapeKitC
set_option linter.unusedVariables false
set_option linter.unusedSimpArgs false
set_option maxRecDepth 10000
namespace Go.Proofs.Ytollibkfagjnaaa.Shape.Kit
open Go.Proofs.Ytollibkfagjnaaa.AM
structure Fr where
  st : List Int
  lo : List Int
def encFr (x : Fr) : PV := .agg [encU x.st, encU x.lo]
def lentFr (x : Fr) : PV := .agg [lentU x.st, lentU x.lo]
structure FrFits (x : Fr) : Prop where
  st : x.st.length < 17592186044415
  lo : x.lo.length < 17592186044415
theorem lentFrame_ok {x : Fr} (hf : FrFits x) : PFun E 14 [encFr x] (valQ (isV (lentFr x))) := by
  refine p_fun ?_
  show PTri E false [] _ [encFr x, .junk, .junk] _ _
  refine s_run ?_
  refine s_drw (g_run 2 ?_)
  refine g_call (lentLabels_ok x.st hf.st) ?_
  rintro v rfl
  refine ⟨rfl, ?_⟩
  refine g_run 2 ?_
  refine g_call (lentLabels_ok x.lo hf.lo) ?_
  rintro v rfl
  refine ⟨rfl, ?_⟩
  refine g_end ?_
  exact p_ret fin_v
theorem keptFrame_ok {x : Fr} (hf : FrFits x) : PFun E 19 [lentFr x, encFr x] (valQ (isV (.s (.bool true)))) := by
  refine p_fun ?_
  show PTri E false [] _ [lentFr x, encFr x, .junk, .junk, .junk] _ _
  refine s_run ?_
  refine s_reg (g_run 4 ?_)
  refine g_call (keptLabels_ok x.st hf.st) ?_
  rintro v rfl
  refine ⟨rfl, ?_⟩
  refine g_run 4 ?_
  refine g_call (keptLabels_ok x.lo hf.lo) ?_
  rintro v rfl
  refine ⟨rfl, ?_⟩
  refine g_end ?_
  exact p_ret fin_v
end Go.Proofs.Ytollibkfagjnaaa.Shape.Kit
