/- Frames: lent, kept, held against each other. -/
import Derived.Test.YtollibkfagjnaaaShapeKitC
set_option linter.unusedVariables false
set_option linter.unusedSimpArgs false
set_option maxRecDepth 10000
namespace Go.Proofs.Ytollibkfagjnaaa.Shape.Kit
open Go.Proofs.Ytollibkfagjnaaa.AM
structure Fr where
  st : List Int
  lo : List Int
def encFr (x : Fr) : PV := .agg [encU x.st, encU x.lo]
structure FrFits (x : Fr) : Prop where
  st : x.st.length < 17592186044415
  lo : x.lo.length < 17592186044415
/-- The same frames. -/
theorem frame_ok {x : Fr} (hf : FrFits x) : PFun E 17 [encFr x, encFr x] (valQ (isV (.s (.bool true)))) := by
  have f1 := hf.st
  have f2 := hf.lo
  refine p_fun ?_
  show PTri E false [] _ [encFr x, encFr x, .junk, .junk, .junk] _ _
  refine s_run ?_
  refine s_reg (g_run 4 ?_)
  refine g_call (labels_ok (n := x.st.length) x.st x.st (fun _ _ => rfl) (by omega)) ?_
  rintro v rfl
  refine ⟨rfl, ?_⟩
  refine g_run 4 ?_
  refine g_call (labels_ok (n := x.lo.length) x.lo x.lo (fun _ _ => rfl) (by omega)) ?_
  rintro v rfl
  refine ⟨rfl, ?_⟩
  refine g_end ?_
  exact p_ret fin_v
end Go.Proofs.Ytollibkfagjnaaa.Shape.Kit
