import Derived.Test.YtajaonnpekdklaaMem
set_option linter.unusedVariables false
namespace Go.Proofs.Ytajaonnpekdklaa.Mem
open Go.RowKit
variable {L L' : Nat → Nat}

/-- An object (one block of cells) one of whose cells holds a slice that it owns: behind an append onto that slice and the store of what it gave. -/
theorem obj_grown {T e : TypeId} {c ob j size n m : Nat} {C : Array Value} {w0 w w1 w2 : World} {v v2 : Value} {xs ys : List Value} (st : Step (· = c) L w0 L' w)
    (hk : w.heap[ob]? = some (.cells C T (0, 0))) (hL : L' ob = c) (hown : Own L' c w e size v n xs) (hne : v.ownBlock ≠ some ob)
    (hb : Below w.heap.size w w1) (hown2 : w2.ownsRow 0 e size v2 m ys) (hg : w1.grownBy w2 v.ownBlock) (hblk : ∀ g, v2.ownBlock = some g → v.ownBlock = some g ∨ w.heap.size ≤ g) :
    ∃ L'', Step (· = c) L w0 L'' (w2.setCell ⟨ob, j, none⟩ v2) ∧ (w2.setCell ⟨ob, j, none⟩ v2).heap[ob]? = some (.cells (C.setIfInBounds j v2) T (0, 0)) ∧ L'' ob = c ∧
      Own L'' c (w2.setCell ⟨ob, j, none⟩ v2) e size v2 m ys ∧ v2.ownBlock ≠ some ob ∧ (∀ k, k < w.heap.size → L'' k = L' k) ∧
      (∀ k, k < w.heap.size → some k ≠ v.ownBlock → k ≠ ob → (w2.setCell ⟨ob, j, none⟩ v2).heap[k]? = w.heap[k]?) ∧ w.heap.size ≤ (w2.setCell ⟨ob, j, none⟩ v2).heap.size := by
  have hkl := lt_of_heap hk
  have hs1 : w.heap.size ≤ w1.heap.size := hb.size
  have hk2 : w2.heap[ob]? = some (.cells C T (0, 0)) := by
    rw [hg.block ob (by omega) (fun e => hne e.symm), hb.block ob hkl]; exact hk
  have hne2 : v2.ownBlock ≠ some ob := by
    intro h
    rcases hblk ob h with h | h
    · exact hne h
    · omega
  have hcol : ∀ g, v2.ownBlock = some g → ext L' w.heap.size c g = c := by
    intro g hg2
    rcases hblk g hg2 with h | h
    · have := hown.2 g h
      by_cases hlt : g < w.heap.size
      · rw [ext_old hlt]; exact this
      · exact ext_new (by omega)
    · exact ext_new h
  have hsame : ∀ k, k < w.heap.size → some k ≠ v.ownBlock → k ≠ ob → (w2.setCell ⟨ob, j, none⟩ v2).heap[k]? = w.heap[k]? := by
    intro k hk' h1 h2
    rw [Below.heap_setCell _ _ _ _ (by exact h2), hg.block k (by omega) h1, hb.block k hk']
  have hsz : w.heap.size ≤ (w2.setCell ⟨ob, j, none⟩ v2).heap.size := by have := hg.size; simp [World.setCell]; omega
  refine ⟨ext L' w.heap.size c, st.trans ⟨hg.os.trans hb.os, hg.tape.trans hb.tape, hg.output.trans hb.output, hsz, fun k hk' hc => ?_, fun k hk' => ext_old hk'⟩, heap_setCell_same hk2 v2, ?_, ⟨ownsRow_blocks hown2 ?_, hcol⟩, hne2, fun k hk' => ext_old hk', hsame, hsz⟩
  · exact hsame k hk' (fun e => hc (hown.2 k e.symm)) (fun e => hc (by rw [e]; exact hL))
  · rw [ext_old hkl]; exact hL
  · intro g hg2
    exact Below.heap_setCell _ _ _ _ (fun e => hne2 (by rw [hg2, e]))

end Go.Proofs.Ytajaonnpekdklaa.Mem
