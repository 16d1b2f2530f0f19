/-
  Any messages, put one behind the other with the end and cut into any pieces, come back, then the end; cut short anywhere the first ones come back, then ErrCut: FrameWhole returns true. No conditions.
-/
import Derived.Test.YtcebdodogbpglaaRdV
import Derived.Test.YtcebdodogbpglaaOpenD
namespace Go.Proofs.Ytcebdodogbpglaa.frameWhole
open Go.ChangeShapes Go.WideShapes Go.ChangeAt Go.RowKit Mem Go.Joins
set_option linter.unusedVariables false
set_option maxRecDepth 100000

theorem walk {H : Type} {enc : TypeId × Value → H} (W : World) (args : Array Value) (ds : List (DataW H)) (told : LawFrame.Told enc Try.prog Try.f8 W args ds) :
    Calls Try.prog 8 args W fun e W' => e = .returned (.bool true) ∧ Below W.heap.size W W' := by
  obtain ⟨⟨p, hA, _⟩, ⟨base, hval⟩, hsz⟩ := told
  rw [Try.params8] at hA hval hsz
  obtain ⟨v0, v1, v2, d0, d1, d2, p0, p1, p2, rfl, rfl, rfl, h0, h1, h2⟩ := trodAll_three hA
  obtain ⟨q0, l0, k0, rfl⟩ := okWide_slice Try.underlying58 (hval 0 58 v0 rfl rfl)
  obtain ⟨q1, l1, k1, rfl⟩ := okWide_slice Try.underlying32 (hval 1 32 v1 rfl rfl)
  obtain ⟨a2, rfl, rfl, rfl, w2⟩ := open_int Try.underlying3 (hval 2 3 v2 rfl rfl) h2
  have b2 := bounds_i64 w2
  obtain ⟨M, hM, hm⟩ := Open.msgs h0
  obtain ⟨cs, hcl, hci, hc⟩ := Open.ints h1
  exact Rdr.whole_walk hm hc hci a2 b2.1 b2.2

theorem isLaw : LawFrame.IsLaw Rows.frameWholeSpec 3 := ⟨rfl, fun H ds h => by match ds, h with | [_, _, _], _ => rfl⟩

theorem lifted (os : Os) (started : os.Started) (H : Type) (enc : TypeId × Value → H) :
    ReturnsInHanded {} Try.checked os 8 .any (Rows.frameWholeSpec.pre6 enc Try.prog Try.f8 Rows.frameWholeRow.domain false) (Rows.frameWholeSpec.post enc Try.prog Try.f8 false true false false) :=
  LawFrame.lifted (C := Try.checked) (tb := 4) (by kernel_rfl) started (by kernel_rfl) Try.func8 isLaw (by kernel_rfl) Try.underlying4 (by kernel_rfl)
    (by rw [Try.params8]; intro t ht; simp at ht; rcases ht with rfl | rfl | rfl <;> exact ⟨by kernel_rfl, of_decide_eq_true (by kernel_rfl)⟩)
    (ChangeSpec.witness6 (enc := enc) (C := Try.checked) false ⟨#[], #[.slice none 0 0, .slice none 0 0, .int .i64 0], []⟩ 8 (by kernel_rfl) (by kernel_rfl) (by kernel_rfl) (by kernel_rfl)) walk

theorem over : Rows.frameWholeRow.holds Try.pinned (OpenSpec.ofChange Rows.frameWholeSpec) :=
  OpenClaim.holds_of_wide 8 Try.f8 rfl rfl rfl rfl rfl rfl rfl ⟨rfl, rfl, rfl, rfl, rfl⟩ rfl rfl rfl rfl rfl (by kernel_rfl) Try.func8 (by kernel_rfl)
    (of_decide_eq_true (by kernel_rfl)) (by unfold Func.isWrapper; first | (rw [if_pos (by decide +kernel)]; kernel_rfl) | (rw [if_neg (by decide +kernel)]; exact ⟨rfl, rfl⟩))
    (fun os started H enc _ => lifted os started H enc)

/-- ████ THE STATEMENT ████ -/
theorem proved : Rows.FrameWholeSaid := over
#print axioms proved
end Go.Proofs.Ytcebdodogbpglaa.frameWhole
