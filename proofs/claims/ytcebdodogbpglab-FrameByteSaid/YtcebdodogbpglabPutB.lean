import Derived.Test.YtcebdodogbpglabPutA
import Derived.Test.YtcebdodogbpglabMemC
set_option linter.unusedVariables false
set_option maxRecDepth 100000
/-! THE REFERENCE'S BYTES OF A MESSAGE. -/
namespace Go.Proofs.Ytcebdodogbpglab.Put
open Go.ChangeShapes Go.WideShapes Go.ChangeAt Go.RowKit Mem Ink

/-- An owned list of bytes comes back, longer. -/
def Laid (L : Nat → Nat) (c : Nat) (w : World) (bs : List UInt8) (v' : Value) (w' : World) : Prop := ∃ L', Step (· = c) L w L' w' ∧ Own L' c w' 5 1 v' bs.length (bs.map byt)

theorem four_is (x : Nat) (hx : x < 4294967296) : [Value.int .u8 ((x : Int) % 256), .int .u8 ((x : Int) / 256 % 256), .int .u8 ((x : Int) / 65536 % 256), .int .u8 ((x : Int) / 16777216)] = (leB (x : Int) 4).map byt := by
  simp [leB, lowByte_emod]; omega

/-- The beginning of a message. -/
def markB (last : UInt8) : List UInt8 := [67, 79, 76, last]
def headB (last : UInt8) (m b sum : Nat) : List UInt8 :=
  ((((markB last ++ leB (m : Int) 4) ++ leB (b : Int) 4) ++ leB ((sumV 2166136261 ((markB last ++ leB (m : Int) 4) ++ leB (b : Int) 4) : Nat) : Int) 4) ++ leB (sum : Int) 4) ++ leB ((0 : Nat) : Int) 4
theorem headB_length (last : UInt8) (m b sum : Nat) : (headB last m b sum).length = 24 := by simp [headB, markB, leB_length]

end Go.Proofs.Ytcebdodogbpglab.Put
