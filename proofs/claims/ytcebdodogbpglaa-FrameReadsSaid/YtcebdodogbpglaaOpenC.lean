import Derived.Test.YtcebdodogbpglaaOpenB
import Derived.Lib.SmallJoins
set_option linter.unusedVariables false
set_option maxRecDepth 100000
/-! BYTES AS A FIELD OF AN ARGUMENT, AND HOW LONG THEY ARE. -/
namespace Go.Proofs.Ytcebdodogbpglaa.Open
open Go.ChangeShapes Go.WideShapes Go.ChangeAt Go.RowKit Go.Deep Mem

section
variable {H : Type} {enc : TypeId × Value → H} {P : Program} {w : World}
theorem bytes_sized {t : TypeId} {q : Option Addr} {len cap : Nat} {d : DataW H} {ps : List MemPlace} (ht : P.underlying t = some (.slice 5)) (he : P.cellsOf 5 = 1) (hb : P.bytesOf 5 = 1)
    (h : DataW.Trod enc P w 0 (fun _ => true) true t (.slice q len cap) d ps) (hw : (d.weights P t).all (· ≤ reachBytes) = true) : len ≤ 140737488351232 := by
  obtain ⟨hl, hm, CS, D, n, hel, hd⟩ := Open.slice ht (by omega) h
  rcases hd with ⟨_, h0⟩ | ⟨sp, rfl, hc⟩
  · omega
  · unfold DataW.weights at hw
    rw [ht] at hw
    simp only [List.all_cons, Bool.and_eq_true, decide_eq_true_eq, hb, Nat.mul_one] at hw
    have := hw.1
    simp [reachBytes] at this
    omega

theorem slice_cell {t e : TypeId} {n : Nat} {v : Value} {y : DataW H × List MemPlace} (ht : P.underlying t = some (.slice e)) (h : DataW.trod enc P w 0 (fun _ => true) true n t [v] = some y) :
    ∃ q len cap, v = .slice q len cap ∧ DataW.Trod enc P w 0 (fun _ => true) true t (.slice q len cap) y.1 y.2 := by
  rcases open_slice ht h with ⟨hcs, hx⟩ | ⟨a, l, c, m, n, D, Pl, hcs, _⟩
  · simp at hcs; subst hcs; exact ⟨_, _, _, rfl, n, by simpa [Value.cells] using h⟩
  · simp at hcs; subst hcs; exact ⟨_, _, _, rfl, _, by simpa [Value.cells] using h⟩
end
end Go.Proofs.Ytcebdodogbpglaa.Open
