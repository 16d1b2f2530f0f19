/-
  Every script of a reader of any limits, fed any pieces, comes to the document's answers at every step: FrameReads returns true. No conditions.
-/
import Derived.Test.YtcebdodogbpglaaRfI
import Derived.Test.YtcebdodogbpglaaOpenE
namespace Go.Proofs.Ytcebdodogbpglaa.frameReads
open Go.ChangeShapes Go.WideShapes Go.ChangeAt Go.RowKit Mem Go.Joins
set_option linter.unusedVariables false
set_option maxRecDepth 100000

theorem walk {H : Type} {enc : TypeId × Value → H} (W : World) (args : Array Value) (ds : List (DataW H)) (told : LawFrame.Told enc Try.prog Try.f7 W args ds) :
    Calls Try.prog 7 args W fun e W' => e = .returned (.bool true) ∧ Below W.heap.size W W' := by
  obtain ⟨⟨p, hA, _⟩, ⟨base, hval⟩, hsz⟩ := told
  rw [Try.params7] at hA hval hsz
  obtain ⟨v0, v1, d0, d1, p0, p1, rfl, rfl, rfl, h0, h1⟩ := trodAll_two hA
  obtain ⟨c0, c1, y0, y1, n, rfl, rfl, _, f0, f1⟩ := open_agg2 Try.underlying40 (by kernel_rfl) (by kernel_rfl) (hval 0 40 v0 rfl rfl) h0
  obtain ⟨x0, e0, _, w0⟩ := DataW.trod_int Try.underlying3 f0
  obtain ⟨x1, e1, _, w1⟩ := DataW.trod_int Try.underlying3 f1
  simp at e0 e1
  subst e0 e1
  obtain ⟨q1, l1, k1, rfl⟩ := okWide_slice Try.underlying41 (hval 1 41 v1 rfl rfl)
  have hw : (DataW.weights Try.prog 41 d1).all (· ≤ reachBytes) = true := by
    have h := hsz
    simp only [DataW.weightsEach, List.append_nil, List.all_append, Bool.and_eq_true] at h
    exact h.2
  obtain ⟨S, hS, hs⟩ := Open.script h1 hw
  exact Rdr.reads_walk x0 x1 (bounds_i64 w0) (bounds_i64 w1) hs

theorem isLaw : LawFrame.IsLaw Rows.frameReadsSpec 2 := ⟨rfl, fun H ds h => by match ds, h with | [_, _], _ => rfl⟩

theorem lifted (os : Os) (started : os.Started) (H : Type) (enc : TypeId × Value → H) :
    ReturnsInHanded {} Try.checked os 7 .any (Rows.frameReadsSpec.pre6 enc Try.prog Try.f7 Rows.frameReadsRow.domain false) (Rows.frameReadsSpec.post enc Try.prog Try.f7 false true false false) :=
  LawFrame.lifted (C := Try.checked) (tb := 4) (by kernel_rfl) started (by kernel_rfl) Try.func7 isLaw (by kernel_rfl) Try.underlying4 (by kernel_rfl)
    (by rw [Try.params7]; intro t ht; simp at ht; rcases ht with rfl | rfl <;> exact ⟨by kernel_rfl, of_decide_eq_true (by kernel_rfl)⟩)
    (ChangeSpec.witness6 (enc := enc) (C := Try.checked) false ⟨#[], #[.agg #[.int .i64 0, .int .i64 0], .slice none 0 0], []⟩ 8 (by kernel_rfl) (by kernel_rfl) (by kernel_rfl) (by kernel_rfl)) walk

theorem over : Rows.frameReadsRow.holds Try.pinned (OpenSpec.ofChange Rows.frameReadsSpec) :=
  OpenClaim.holds_of_wide 7 Try.f7 rfl rfl rfl rfl rfl rfl rfl ⟨rfl, rfl, rfl, rfl, rfl⟩ rfl rfl rfl rfl rfl (by kernel_rfl) Try.func7 (by kernel_rfl)
    (of_decide_eq_true (by kernel_rfl)) (by unfold Func.isWrapper; first | (rw [if_pos (by decide +kernel)]; kernel_rfl) | (rw [if_neg (by decide +kernel)]; exact ⟨rfl, rfl⟩))
    (fun os started H enc _ => lifted os started H enc)

/-- ████ THE STATEMENT ████ -/
theorem proved : Rows.FrameReadsSaid := over
#print axioms proved
end Go.Proofs.Ytcebdodogbpglaa.frameReads
