import Derived.Test.YtcebdodogbpglabRdU
set_option linter.unusedVariables false
set_option maxRecDepth 100000
/-! THE WALK OF FRAMEWHOLE. -/
namespace Go.Proofs.Ytcebdodogbpglab.Rdr
open Go.ChangeShapes Go.WideShapes Go.ChangeAt Go.RowKit Mem Put

theorem fits_of {M : List Pair} (h : fitB M = true) : Fits 65536 4194304 M := fun m hm => by
  have := List.all_eq_true.1 h m hm
  simpa using this
theorem RR_stream {M : List Pair} (h : Fits 65536 4194304 M) : RR (streamB M) (streamB M).length = ⟨M, [], 0, true⟩ := by
  unfold RR; rw [List.take_of_length_le (Nat.le_refl _)]; exact scan_stream (Nat.le_refl _) (Nat.le_refl _) M h
theorem RR_cut {M : List Pair} (h : Fits 65536 4194304 M) {k : Nat} (hk : k < (streamB M).length) : ∃ t, RR ((streamB M).take k) ((streamB M).take k).length = ⟨M.take (cnt M k), t, 0, false⟩ := by
  unfold RR; rw [List.take_of_length_le (Nat.le_refl _)]; exact scan_cut (Nat.le_refl _) (Nat.le_refl _) M k h hk
theorem stream_len (M : List Pair) : 24 ≤ (streamB M).length ∧ (streamB M).length ≤ tot M + 24 := by
  have h1 := preB_tot M
  have h2 := msg_length 48 [] []
  have e : (streamB M).length = (preB M).length + (msgB 48 [] []).length := by unfold streamB preB; rw [List.length_append]
  have h3 : padU ([] : List UInt8).length = 0 := rfl
  omega
theorem cnt_drop {M : List Pair} {k : Nat} (h : k < M.length) (r : Nat) : cnt (M.drop k) r = if (msgB 49 M[k].1 M[k].2).length ≤ r then 1 + cnt (M.drop (k + 1)) (r - (msgB 49 M[k].1 M[k].2).length) else 0 := by
  rw [List.drop_eq_getElem_cons h]; rfl

end Go.Proofs.Ytcebdodogbpglab.Rdr
