import Derived.Test.YtcebdodogbpglabPutE
import Derived.Test.YtcebdodogbpglabSame
set_option linter.unusedVariables false
set_option maxRecDepth 100000
/-! THE LAW'S OWN FUNCTIONS: kept; the book. -/
namespace Go.Proofs.Ytcebdodogbpglab.Put
open Go.ChangeShapes Go.WideShapes Go.ChangeAt Go.RowKit Mem Ink

theorem Rd.front {L : Nat → Nat} {c : Nat} {w : World} {p : Option Addr} {n m k cap : Nat} {xs ys : List Value} (h : Rd L c w 1 (.slice p n cap) n (xs ++ ys)) (hx : xs.length = m) (hk : m ≤ k) (hk2 : k ≤ maxLen) : Rd L c w 1 (.slice p m k) m xs := by
  obtain ⟨h1, q', cap', hv, hn, hmx, hc⟩ := h
  cases hv
  refine ⟨by omega, _, _, rfl, hk, hk2, fun j u hj => hc j u ?_⟩
  have : j < xs.length := (List.getElem?_eq_some_iff.1 hj).1
  rw [List.getElem?_append_left this]; exact hj

end Go.Proofs.Ytcebdodogbpglab.Put
