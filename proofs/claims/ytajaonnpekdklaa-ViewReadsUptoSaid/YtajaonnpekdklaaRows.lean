/-
  No cell of these rows narrows 'for every input' (looked for: loops, veiled, ifaces, maps, wideKeys, modest, calm, conditions, laid).
  DERIVED. THE GIVEN ROWS OF THIS SEAT. 6 by the template 'for every input the law returns true; each argument reads behind the call as it read before'; 0 by the template 'total and deterministic' (their statements: YtajaonnpekdklaaTotals.lean).
  GIVEN WITH THE SEED: the statements are not yours to turn. If you find one false, say at which input.
  Laid BY PROGRAM, IN A SANDBOX (cutbox-rows.mjs): the forced cells as the released guide's own fill.sh prints them over the translation db5e650d45a625c4… (all of the seat's roots in one cut). By AI agents, Wed Nov 11 2026. No macro, syntax, notation, axiom, sorry.
-/
import Derived.Test.YtajaonnpekdklaaChecked
import GoSem.Claim
import GoSem.ClaimJoined
import GoSem.ClaimMapViews
import Derived.JoinedTies
import Derived.KernelRfl
namespace Go.Proofs.Ytajaonnpekdklaa
/- THE CELL 'sum', in the pinned program and in every row, IS THE sha256 OF THE DUMP (.gsa) THAT YtajaonnpekdklaaProg.lean LOADS. Nothing in Lean hashes anything: it is a label: what it is worth is what the hold of that sum in a sandbox is worth. -/
noncomputable def Try.pinned : Pinned := { name := "ytajaonnpekdklaa", sum := "db5e650d45a625c4cb19d2463aff0e405a8737b6b46231295ceac26226f63d99", checked := Try.checked }
namespace Rows
def none {H : Type} : Left H := { results := [], args := [] }

/-- 'colonnadelaw01.ViewNames': WHATEVER THE INPUT: true; the input reads as it did. -/
def viewNamesSpec : ChangeSpec := { name := "viewNames", fn := fun _ => fun
  | [] => { results := [.lit (.bool true)], args := [] }
  | _ => none }
def viewNamesRow : OpenClaim := { program := "ytajaonnpekdklaa", sum := "db5e650d45a625c4cb19d2463aff0e405a8737b6b46231295ceac26226f63d99", func := "colonnade/colonnadelaw01.ViewNames", spec := "viewNames", apart := false }
def ViewNamesSaid : Prop := viewNamesRow.holds Try.pinned (OpenSpec.ofChange viewNamesSpec)

/-- ITS FALSE NEIGHBOUR: 'it returns false'. Refute it at one input. -/
def viewNamesWrong : ChangeSpec := { name := "viewNames", fn := fun _ => fun
  | [] => { results := [.lit (.bool false)], args := [] }
  | _ => none }
def ViewNamesWrongFalsely : Prop := viewNamesRow.holds Try.pinned (OpenSpec.ofChange viewNamesWrong)

/-- 'colonnadelaw01.ViewExact': WHATEVER THE INPUT: true; the input reads as it did. -/
def viewExactSpec : ChangeSpec := { name := "viewExact", fn := fun _ => fun
  | [d1, d2, d3] => { results := [.lit (.bool true)], args := [d1, d2, d3] }
  | _ => none }
def viewExactRow : OpenClaim := { program := "ytajaonnpekdklaa", sum := "db5e650d45a625c4cb19d2463aff0e405a8737b6b46231295ceac26226f63d99", func := "colonnade/colonnadelaw01.ViewExact", spec := "viewExact", apart := false }
def ViewExactSaid : Prop := viewExactRow.holds Try.pinned (OpenSpec.ofChange viewExactSpec)

/-- ITS FALSE NEIGHBOUR: 'it returns false'. Refute it at one input. -/
def viewExactWrong : ChangeSpec := { name := "viewExact", fn := fun _ => fun
  | [d1, d2, d3] => { results := [.lit (.bool false)], args := [d1, d2, d3] }
  | _ => none }
def ViewExactWrongFalsely : Prop := viewExactRow.holds Try.pinned (OpenSpec.ofChange viewExactWrong)

/-- 'colonnadelaw01.ViewInk': WHATEVER THE INPUT: true; the input reads as it did. -/
def viewInkSpec : ChangeSpec := { name := "viewInk", fn := fun _ => fun
  | [d1, d2] => { results := [.lit (.bool true)], args := [d1, d2] }
  | _ => none }
def viewInkRow : OpenClaim := { program := "ytajaonnpekdklaa", sum := "db5e650d45a625c4cb19d2463aff0e405a8737b6b46231295ceac26226f63d99", func := "colonnade/colonnadelaw01.ViewInk", spec := "viewInk", apart := false }
def ViewInkSaid : Prop := viewInkRow.holds Try.pinned (OpenSpec.ofChange viewInkSpec)

/-- ITS FALSE NEIGHBOUR: 'it returns false'. Refute it at one input. -/
def viewInkWrong : ChangeSpec := { name := "viewInk", fn := fun _ => fun
  | [d1, d2] => { results := [.lit (.bool false)], args := [d1, d2] }
  | _ => none }
def ViewInkWrongFalsely : Prop := viewInkRow.holds Try.pinned (OpenSpec.ofChange viewInkWrong)

/-- 'colonnadelaw01.ViewInside': WHATEVER THE INPUT: true; the input reads as it did. -/
def viewInsideSpec : ChangeSpec := { name := "viewInside", fn := fun _ => fun
  | [d1, d2] => { results := [.lit (.bool true)], args := [d1, d2] }
  | _ => none }
def viewInsideRow : OpenClaim := { program := "ytajaonnpekdklaa", sum := "db5e650d45a625c4cb19d2463aff0e405a8737b6b46231295ceac26226f63d99", func := "colonnade/colonnadelaw01.ViewInside", spec := "viewInside", apart := false }
def ViewInsideSaid : Prop := viewInsideRow.holds Try.pinned (OpenSpec.ofChange viewInsideSpec)

/-- ITS FALSE NEIGHBOUR: 'it returns false'. Refute it at one input. -/
def viewInsideWrong : ChangeSpec := { name := "viewInside", fn := fun _ => fun
  | [d1, d2] => { results := [.lit (.bool false)], args := [d1, d2] }
  | _ => none }
def ViewInsideWrongFalsely : Prop := viewInsideRow.holds Try.pinned (OpenSpec.ofChange viewInsideWrong)

/-- 'colonnadelaw01.ViewReads': WHATEVER THE INPUT: true; the input reads as it did. -/
def viewReadsSpec : ChangeSpec := { name := "viewReads", fn := fun _ => fun
  | [d1, d2] => { results := [.lit (.bool true)], args := [d1, d2] }
  | _ => none }
def viewReadsRow : OpenClaim := { program := "ytajaonnpekdklaa", sum := "db5e650d45a625c4cb19d2463aff0e405a8737b6b46231295ceac26226f63d99", func := "colonnade/colonnadelaw01.ViewReads", spec := "viewReads", apart := false }
def ViewReadsSaid : Prop := viewReadsRow.holds Try.pinned (OpenSpec.ofChange viewReadsSpec)

/-- ITS FALSE NEIGHBOUR: 'it returns false'. Refute it at one input. -/
def viewReadsWrong : ChangeSpec := { name := "viewReads", fn := fun _ => fun
  | [d1, d2] => { results := [.lit (.bool false)], args := [d1, d2] }
  | _ => none }
def ViewReadsWrongFalsely : Prop := viewReadsRow.holds Try.pinned (OpenSpec.ofChange viewReadsWrong)

/-- 'colonnadelaw01.ViewBack': WHATEVER THE INPUT: true; the input reads as it did. -/
def viewBackSpec : ChangeSpec := { name := "viewBack", fn := fun _ => fun
  | [d1, d2, d3] => { results := [.lit (.bool true)], args := [d1, d2, d3] }
  | _ => none }
def viewBackRow : OpenClaim := { program := "ytajaonnpekdklaa", sum := "db5e650d45a625c4cb19d2463aff0e405a8737b6b46231295ceac26226f63d99", func := "colonnade/colonnadelaw01.ViewBack", spec := "viewBack", apart := false }
def ViewBackSaid : Prop := viewBackRow.holds Try.pinned (OpenSpec.ofChange viewBackSpec)

/-- ITS FALSE NEIGHBOUR: 'it returns false'. Refute it at one input. -/
def viewBackWrong : ChangeSpec := { name := "viewBack", fn := fun _ => fun
  | [d1, d2, d3] => { results := [.lit (.bool false)], args := [d1, d2, d3] }
  | _ => none }
def ViewBackWrongFalsely : Prop := viewBackRow.holds Try.pinned (OpenSpec.ofChange viewBackWrong)

/- THE SECOND FORM. 'bulk': how many values and letters a reading holds, each counted each time it is reached (what is shared counts as often as it is met; a slice's spare places count too). A statement '..UptoSaid' is the law's where the arguments, and the package variables that the reading takes, are together of bulk at most 1048576: NARROWER than '..Said'. Prove '..Said' where nothing that the law and all that it calls make is longer than what came in: it says more and counts as full. Else prove '..UptoSaid'. A law counts once. -/
mutual
def uptoBulk {H : Type} : DataW H → Nat
  | .lit (.string bytes) => bytes.length + 1
  | .lit _ => 1
  | .nil => 1
  | .ptr d => uptoBulk d + 1
  | .slice elems spare => uptoBulkAll elems + uptoBulkAll spare + 1
  | .agg parts => uptoBulkAll parts + 1
  | .iface _ d => uptoBulk d + 1
  | .map entries => uptoBulkEntries entries + 1
  | .held _ => 1
def uptoBulkAll {H : Type} : List (DataW H) → Nat
  | [] => 0
  | d :: r => uptoBulk d + uptoBulkAll r
def uptoBulkEntries {H : Type} : List (Lit × DataW H) → Nat
  | [] => 0
  | x :: r => uptoBulkEntry x + uptoBulkEntries r
def uptoBulkEntry {H : Type} : Lit × DataW H → Nat
  | (.string bytes, d) => bytes.length + uptoBulk d + 1
  | (_, d) => uptoBulk d + 1
 end
def uptoSmall : (H : Type) → List (DataW H) → Bool := fun _ ds => decide (uptoBulkAll ds ≤ 1048576)
def OpenSpec.upto (s : _root_.Go.ChangeSpec) : _root_.Go.OpenSpec := { _root_.Go.OpenSpec.ofChange s with cond := some uptoSmall }

/-- 'colonnadelaw01.ViewNames', WHERE WHAT IT READS IS OF BULK AT MOST 1048576: true; the input reads as it did. -/
def viewNamesUptoRow : OpenClaim := { program := "ytajaonnpekdklaa", sum := "db5e650d45a625c4cb19d2463aff0e405a8737b6b46231295ceac26226f63d99", func := "colonnade/colonnadelaw01.ViewNames", spec := "viewNames", apart := false, narrowed := true }
def ViewNamesUptoSaid : Prop := viewNamesUptoRow.holds Try.pinned (OpenSpec.upto viewNamesSpec)

/-- 'colonnadelaw01.ViewExact', WHERE WHAT IT READS IS OF BULK AT MOST 1048576: true; the input reads as it did. -/
def viewExactUptoRow : OpenClaim := { program := "ytajaonnpekdklaa", sum := "db5e650d45a625c4cb19d2463aff0e405a8737b6b46231295ceac26226f63d99", func := "colonnade/colonnadelaw01.ViewExact", spec := "viewExact", apart := false, narrowed := true }
def ViewExactUptoSaid : Prop := viewExactUptoRow.holds Try.pinned (OpenSpec.upto viewExactSpec)

/-- 'colonnadelaw01.ViewInk', WHERE WHAT IT READS IS OF BULK AT MOST 1048576: true; the input reads as it did. -/
def viewInkUptoRow : OpenClaim := { program := "ytajaonnpekdklaa", sum := "db5e650d45a625c4cb19d2463aff0e405a8737b6b46231295ceac26226f63d99", func := "colonnade/colonnadelaw01.ViewInk", spec := "viewInk", apart := false, narrowed := true }
def ViewInkUptoSaid : Prop := viewInkUptoRow.holds Try.pinned (OpenSpec.upto viewInkSpec)

/-- 'colonnadelaw01.ViewInside', WHERE WHAT IT READS IS OF BULK AT MOST 1048576: true; the input reads as it did. -/
def viewInsideUptoRow : OpenClaim := { program := "ytajaonnpekdklaa", sum := "db5e650d45a625c4cb19d2463aff0e405a8737b6b46231295ceac26226f63d99", func := "colonnade/colonnadelaw01.ViewInside", spec := "viewInside", apart := false, narrowed := true }
def ViewInsideUptoSaid : Prop := viewInsideUptoRow.holds Try.pinned (OpenSpec.upto viewInsideSpec)

/-- 'colonnadelaw01.ViewReads', WHERE WHAT IT READS IS OF BULK AT MOST 1048576: true; the input reads as it did. -/
def viewReadsUptoRow : OpenClaim := { program := "ytajaonnpekdklaa", sum := "db5e650d45a625c4cb19d2463aff0e405a8737b6b46231295ceac26226f63d99", func := "colonnade/colonnadelaw01.ViewReads", spec := "viewReads", apart := false, narrowed := true }
def ViewReadsUptoSaid : Prop := viewReadsUptoRow.holds Try.pinned (OpenSpec.upto viewReadsSpec)

/-- 'colonnadelaw01.ViewBack', WHERE WHAT IT READS IS OF BULK AT MOST 1048576: true; the input reads as it did. -/
def viewBackUptoRow : OpenClaim := { program := "ytajaonnpekdklaa", sum := "db5e650d45a625c4cb19d2463aff0e405a8737b6b46231295ceac26226f63d99", func := "colonnade/colonnadelaw01.ViewBack", spec := "viewBack", apart := false, narrowed := true }
def ViewBackUptoSaid : Prop := viewBackUptoRow.holds Try.pinned (OpenSpec.upto viewBackSpec)

end Rows
end Go.Proofs.Ytajaonnpekdklaa
