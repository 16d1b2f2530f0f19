import Derived.Test.YtcebdodogbpglabPutG
import Derived.Deep.Cut
set_option linter.unusedVariables false
set_option maxRecDepth 100000
/-! THE BOOK. -/
namespace Go.Proofs.Ytcebdodogbpglab.Mem
open Go.ChangeShapes Go.WideShapes Go.ChangeAt Go.RowKit

theorem Step.store {L : Nat → Nat} {w : World} {kb c j : Nat} {C : Array Value} {T : TypeId} {v : Value} (hk : w.heap[kb]? = some (.cells C T (0, 0))) (hL : L kb = c) :
    Step (· = c) L w L (w.setCell ⟨kb, j, none⟩ v) ∧ (w.setCell ⟨kb, j, none⟩ v).heap[kb]? = some (.cells (C.setIfInBounds j v) T (0, 0)) := by
  refine ⟨⟨rfl, rfl, rfl, by simp [World.setCell], fun k hk' hc => ?_, fun k hk' => rfl⟩, heap_setCell_same hk v⟩
  exact Below.heap_setCell _ _ _ _ (fun e => hc (by rw [e]; exact hL))

end Go.Proofs.Ytcebdodogbpglab.Mem

namespace Go.Proofs.Ytcebdodogbpglab.Put
open Go.ChangeShapes Go.WideShapes Go.ChangeAt Go.RowKit Mem Ink

end Go.Proofs.Ytcebdodogbpglab.Put
