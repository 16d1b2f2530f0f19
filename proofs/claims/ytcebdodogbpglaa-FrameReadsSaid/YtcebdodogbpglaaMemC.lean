import Derived.Test.YtcebdodogbpglaaMem
set_option linter.unusedVariables false
set_option maxRecDepth 100000
/-! NEW BLOCKS THAT ARE OWNED. -/
namespace Go.Proofs.Ytcebdodogbpglaa.Mem
open Go.ChangeShapes Go.WideShapes Go.ChangeAt Go.RowKit

theorem Own.made (L : Nat → Nat) (c : Nat) (w : World) (e : TypeId) (size n : Nat) (xs : List Value) (hl : xs.length = n * size) (hm : n ≤ maxLen) :
    Step (fun _ => False) L w (ext L w.heap.size c) (w.alloc (.cells xs.toArray e)) ∧ Own (ext L w.heap.size c) c (w.alloc (.cells xs.toArray e)) e size (.slice (some ⟨w.heap.size, 0, none⟩) n n) n xs := by
  refine ⟨Step.of_below (below_alloc w _) _ c, ⟨hl, .inr ⟨w.heap.size, n, xs.toArray, rfl, Nat.zero_le _, heap_alloc_new w _, Nat.le_refl _, hm, by simpa using hl, ?_⟩⟩, fun g hg => ?_⟩
  · rw [← hl]; simp
  · cases hg; exact ext_new (Nat.le_refl _)

/-- A variable of the walk's own: a block of one colour, its cells. -/
def Cells (L : Nat → Nat) (w : World) (b d : Nat) (vs : List Value) : Prop := b < w.heap.size ∧ L b = d ∧ ∀ j v, vs[j]? = some v → w.cell? ⟨b, j, none⟩ = some v
theorem Cells.step {L L' : Nat → Nat} {w w' : World} {C : Nat → Prop} {b d : Nat} {vs : List Value} (h : Cells L w b d vs) (st : Step C L w L' w') (hC : ¬ C d) : Cells L' w' b d vs := by
  obtain ⟨h0, h1, h2⟩ := h
  exact ⟨Nat.lt_of_lt_of_le h0 st.size, (st.col b h0).trans h1, fun j v hj => st.cell (h2 j v hj) (by rw [h1]; exact hC)⟩
theorem Cells.new (L : Nat → Nat) (w : World) (d : Nat) (T : TypeId) (vs : List Value) : Step (fun _ => False) L w (ext L w.heap.size d) (w.alloc (.cells vs.toArray T)) ∧ Cells (ext L w.heap.size d) (w.alloc (.cells vs.toArray T)) w.heap.size d vs :=
  ⟨Step.of_below (below_alloc w _) _ d, by simp, ext_new (Nat.le_refl _), fun j v hj => by simp [hj]⟩
theorem Cells.drewN {L : Nat → Nat} {w : World} {b d : Nat} {vs : List Value} (h : Cells L w b d vs) (k : Nat) : Cells L (w.drewN k) b d vs := h

end Go.Proofs.Ytcebdodogbpglaa.Mem
