/-
  The bytes of any message and of the end are the document's, asked twice over the same lists and again when those have changed; what is handed in stays, what comes out is its owner's: FramePuts returns true. No conditions.
-/
import Derived.Test.YtcebdodogbpglaaPutW
import Derived.Test.YtcebdodogbpglaaOpenC
import Derived.Lib.SmallJoins
namespace Go.Proofs.Ytcebdodogbpglaa.framePuts
open Go.ChangeShapes Go.WideShapes Go.ChangeAt Go.RowKit Mem Go.Joins
set_option linter.unusedVariables false
set_option maxRecDepth 100000

theorem walk {H : Type} {enc : TypeId × Value → H} (W : World) (args : Array Value) (ds : List (DataW H)) (told : LawFrame.Told enc Try.prog Try.f6 W args ds) :
    Calls Try.prog 6 args W fun e W' => e = .returned (.bool true) ∧ Below W.heap.size W W' := by
  obtain ⟨⟨p, hA, _⟩, ⟨base, hval⟩, hsz⟩ := told
  rw [Try.params6] at hA hval hsz
  obtain ⟨v0, d0, rfl, rfl, h0⟩ := trodAll_one hA
  obtain ⟨c0, c1, y0, y1, n, rfl, rfl, _, f0, f1⟩ := open_agg2 Try.underlying25 (by kernel_rfl) (by kernel_rfl) (hval 0 25 v0 rfl rfl) h0
  obtain ⟨q0, l0, k0, rfl, t0⟩ := Open.slice_cell Try.underlying23 f0
  obtain ⟨q1, l1, k1, rfl, t1⟩ := Open.slice_cell Try.underlying23 f1
  obtain ⟨bs, hbl, hr⟩ := Open.bytes Try.underlying23 Try.underlying5 (by kernel_rfl) t0
  obtain ⟨cs, hcl, hs⟩ := Open.bytes Try.underlying23 Try.underlying5 (by kernel_rfl) t1
  have hw : ((DataW.weights Try.prog 23 y0.1).all (· ≤ reachBytes) = true) ∧ ((DataW.weights Try.prog 23 y1.1).all (· ≤ reachBytes) = true) := by
    have h := hsz
    simp only [DataW.weightsEach, DataW.weights] at h
    rw [Try.underlying25] at h
    simp only [DataW.weightsEach, List.map_cons, List.map_nil, List.append_nil, List.all_append, Bool.and_eq_true] at h
    exact h
  exact Put.puts_walk hr hs (Open.bytes_sized Try.underlying23 (by kernel_rfl) (by kernel_rfl) t0 hw.1) (Open.bytes_sized Try.underlying23 (by kernel_rfl) (by kernel_rfl) t1 hw.2)

theorem isLaw : LawFrame.IsLaw Rows.framePutsSpec 1 := ⟨rfl, fun H ds h => by match ds, h with | [_], _ => rfl⟩

theorem lifted (os : Os) (started : os.Started) (H : Type) (enc : TypeId × Value → H) :
    ReturnsInHanded {} Try.checked os 6 .any (Rows.framePutsSpec.pre6 enc Try.prog Try.f6 Rows.framePutsRow.domain false) (Rows.framePutsSpec.post enc Try.prog Try.f6 false true false false) :=
  LawFrame.lifted (C := Try.checked) (tb := 4) (by kernel_rfl) started (by kernel_rfl) Try.func6 isLaw (by kernel_rfl) Try.underlying4 (by kernel_rfl)
    (by rw [Try.params6]; intro t ht; simp at ht; subst ht; exact ⟨by kernel_rfl, of_decide_eq_true (by kernel_rfl)⟩)
    (ChangeSpec.witness6 (enc := enc) (C := Try.checked) false ⟨#[], #[.agg #[.slice none 0 0, .slice none 0 0]], []⟩ 8 (by kernel_rfl) (by kernel_rfl) (by kernel_rfl) (by kernel_rfl)) walk

theorem over : Rows.framePutsRow.holds Try.pinned (OpenSpec.ofChange Rows.framePutsSpec) :=
  OpenClaim.holds_of_wide 6 Try.f6 rfl rfl rfl rfl rfl rfl rfl ⟨rfl, rfl, rfl, rfl, rfl⟩ rfl rfl rfl rfl rfl (by kernel_rfl) Try.func6 (by kernel_rfl)
    (of_decide_eq_true (by kernel_rfl)) (by unfold Func.isWrapper; first | (rw [if_pos (by decide +kernel)]; kernel_rfl) | (rw [if_neg (by decide +kernel)]; exact ⟨rfl, rfl⟩))
    (fun os started H enc _ => lifted os started H enc)

/-- ████ THE STATEMENT ████ -/
theorem proved : Rows.FramePutsSaid := over
#print axioms proved
end Go.Proofs.Ytcebdodogbpglaa.framePuts
