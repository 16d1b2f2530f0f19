import Derived.Test.YtcebdodogbpglabPutB
import Derived.StillTailTactics
import Derived.Test.YtcebdodogbpglabMemD
set_option linter.unusedVariables false
set_option maxRecDepth 100000
/-! THE REFERENCE'S PUT. -/
namespace Go.Proofs.Ytcebdodogbpglab.Put
open Go.ChangeShapes Go.WideShapes Go.ChangeAt Go.RowKit Mem Ink

def padU (n : Nat) : Nat := (n + 7) / 8 * 8
theorem padU_ge (n : Nat) : n ≤ padU n ∧ padU n < n + 8 := by unfold padU; omega
def zeros (n : Nat) : List UInt8 := List.replicate n 0
theorem zeros_map (k : Nat) : (zeros k).map byt = List.replicate k (.int .u8 0) := by simp [zeros, byt]
def msgB (last : UInt8) (ms bd : List UInt8) : List UInt8 :=
  (((headB last ms.length bd.length (sumV (sumV 2166136261 ms) bd) ++ ms) ++ zeros (padU ms.length - ms.length)) ++ bd) ++ zeros (padU bd.length - bd.length)
def putE (n k : Nat) : Int := if 65536 < n then 4 else if 4194304 < k then 4 else 0
def putB (ms bd : List UInt8) : List UInt8 := if putE ms.length bd.length = 0 then msgB 49 ms bd else []

/-- A list that is owned comes back, and a number of an error. -/
def LaidE (L : Nat → Nat) (c : Nat) (w : World) (bs : List UInt8) (x : Int) (e : Ending) (w' : World) : Prop := ∃ v', e = .returned (.tuple #[v', .int .i64 x]) ∧ ∃ L', Step (· = c) L w L' w' ∧ Own L' c w' 5 1 v' bs.length (bs.map byt)

end Go.Proofs.Ytcebdodogbpglab.Put
