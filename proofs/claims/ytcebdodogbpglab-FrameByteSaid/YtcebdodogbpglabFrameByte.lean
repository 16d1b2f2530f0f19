/-
  One byte of a stream is another one: the messages ahead of it are told, the one in which it stands never, and behind Shut it is Wrong: FrameByte returns true. No conditions.
-/
import Derived.Test.YtcebdodogbpglabRdY
import Derived.Test.YtcebdodogbpglabOpenD
namespace Go.Proofs.Ytcebdodogbpglab.frameByte
open Go.ChangeShapes Go.WideShapes Go.ChangeAt Go.RowKit Mem Go.Joins
set_option linter.unusedVariables false
set_option maxRecDepth 100000

theorem walk {H : Type} {enc : TypeId × Value → H} (W : World) (args : Array Value) (ds : List (DataW H)) (told : LawFrame.Told enc Try.prog Try.f3 W args ds) :
    Calls Try.prog 3 args W fun e W' => e = .returned (.bool true) ∧ Below W.heap.size W W' := by
  obtain ⟨⟨p, hA, _⟩, ⟨base, hval⟩, hsz⟩ := told
  rw [Try.params3] at hA hval hsz
  obtain ⟨v0, v1, v2, v3, d0, d1, d2, d3, p0, p1, p2, p3, rfl, rfl, rfl, h0, h1, h2, h3⟩ := trodAll_four hA
  obtain ⟨q0, l0, k0, rfl⟩ := okWide_slice Try.underlying22 (hval 0 22 v0 rfl rfl)
  obtain ⟨q1, l1, k1, rfl⟩ := okWide_slice Try.underlying23 (hval 1 23 v1 rfl rfl)
  obtain ⟨a2, rfl, rfl, rfl, w2⟩ := open_int Try.underlying3 (hval 2 3 v2 rfl rfl) h2
  have b2 := bounds_i64 w2
  obtain ⟨a3, rfl, rfl, rfl, w3⟩ := open_int Try.underlying5 (hval 3 5 v3 rfl rfl) h3
  have b3 := bounds_u8 w3
  obtain ⟨y, rfl⟩ : ∃ y : UInt8, (y.toNat : Int) = a3 := ⟨UInt8.ofNat a3.toNat, by rw [UInt8.toNat_ofNat']; omega⟩
  obtain ⟨M, hM, hm⟩ := Open.msgs h0
  obtain ⟨cs, hcl, hci, hc⟩ := Open.ints h1
  exact Rdr.byte_walk hm hc hci a2 b2.1 b2.2 y

theorem isLaw : LawFrame.IsLaw Rows.frameByteSpec 4 := ⟨rfl, fun H ds h => by match ds, h with | [_, _, _, _], _ => rfl⟩

theorem lifted (os : Os) (started : os.Started) (H : Type) (enc : TypeId × Value → H) :
    ReturnsInHanded {} Try.checked os 3 .any (Rows.frameByteSpec.pre6 enc Try.prog Try.f3 Rows.frameByteRow.domain false) (Rows.frameByteSpec.post enc Try.prog Try.f3 false true false false) :=
  LawFrame.lifted (C := Try.checked) (tb := 4) (by kernel_rfl) started (by kernel_rfl) Try.func3 isLaw (by kernel_rfl) Try.underlying4 (by kernel_rfl)
    (by rw [Try.params3]; intro t ht; simp at ht; rcases ht with rfl | rfl | rfl | rfl <;> exact ⟨by kernel_rfl, of_decide_eq_true (by kernel_rfl)⟩)
    (ChangeSpec.witness6 (enc := enc) (C := Try.checked) false ⟨#[], #[.slice none 0 0, .slice none 0 0, .int .i64 0, .int .u8 0], []⟩ 3 (by kernel_rfl) (by kernel_rfl) (by kernel_rfl) (by kernel_rfl)) walk

theorem over : Rows.frameByteRow.holds Try.pinned (OpenSpec.ofChange Rows.frameByteSpec) :=
  OpenClaim.holds_of_wide 3 Try.f3 rfl rfl rfl rfl rfl rfl rfl ⟨rfl, rfl, rfl, rfl, rfl⟩ rfl rfl rfl rfl rfl (by kernel_rfl) Try.func3 (by kernel_rfl)
    (of_decide_eq_true (by kernel_rfl)) (by unfold Func.isWrapper; first | (rw [if_pos (by decide +kernel)]; kernel_rfl) | (rw [if_neg (by decide +kernel)]; exact ⟨rfl, rfl⟩))
    (fun os started H enc _ => lifted os started H enc)

/-- ████ THE STATEMENT ████ -/
theorem proved : Rows.FrameByteSaid := over
#print axioms proved
end Go.Proofs.Ytcebdodogbpglab.frameByte
