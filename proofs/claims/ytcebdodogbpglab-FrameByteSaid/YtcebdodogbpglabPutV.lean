import Derived.Test.YtcebdodogbpglabApartA
import Derived.Test.YtcebdodogbpglabLate
set_option linter.unusedVariables false
set_option maxRecDepth 100000
/-! THE TURNS OF FRAMEPUTS. -/
namespace Go.Proofs.Ytcebdodogbpglab.Put
open Go.ChangeShapes Go.WideShapes Go.ChangeAt Go.RowKit Mem Ink

theorem rclose_msg : headB 48 0 0 2166136261 = msgB 48 [] [] := by
  simp [msgB, sumV, zeros, padU]


end Go.Proofs.Ytcebdodogbpglab.Put
