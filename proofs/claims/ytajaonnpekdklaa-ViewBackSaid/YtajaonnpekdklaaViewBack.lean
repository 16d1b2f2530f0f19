/-
  What an ink lays down a view tells, for every text, number and width; ViewBack returns true. No conditions.
-/
import Derived.Test.YtajaonnpekdklaaBackC
import Derived.Test.YtajaonnpekdklaaFrame
import Derived.ChangeMaps5
namespace Go.Proofs.Ytajaonnpekdklaa.viewBack
open Go.ChangeShapes Go.WideShapes Go.ChangeAt Go.RowKit Mem Vw
set_option linter.unusedVariables false
set_option maxRecDepth 100000

theorem walk {H : Type} {enc : TypeId × Value → H} (W : World) (args : Array Value) (ds : List (DataW H)) (told : LawFrame.Told enc Try.prog Try.f8 W args ds) :
    Calls Try.prog 8 args W fun e W' => e = .returned (.bool true) ∧ Below W.heap.size W W' := by
  obtain ⟨⟨p, hA, _⟩, ⟨base, hval⟩, hsz⟩ := told
  rw [Try.params8] at hA hval hsz
  obtain ⟨v0, v1, v2, d0, d1, d2, p0, p1, p2, rfl, rfl, rfl, h0, h1, h2⟩ := trodAll_three hA
  obtain ⟨a0, rfl, rfl, rfl, w0⟩ := Go.ChangeMaps.open_string Try.underlying9 (hval 0 9 v0 rfl rfl) h0
  obtain ⟨a1, rfl, rfl, rfl, w1⟩ := open_int Try.underlying34 (hval 1 34 v1 rfl rfl) h1
  obtain ⟨a2, rfl, rfl, rfl, w2⟩ := open_int Try.underlying3 (hval 2 3 v2 rfl rfl) h2
  have b1 := bounds_u64 w1
  have b2 := bounds_i64 w2
  obtain ⟨x, rfl⟩ : ∃ x : Nat, a1 = x := ⟨a1.toNat, by omega⟩
  exact back_walk a0 w0 x (by omega) a2 b2.1 b2.2

theorem isLaw : LawFrame.IsLaw Rows.viewBackSpec 3 := ⟨rfl, fun H ds h => by match ds, h with | [_, _, _], _ => rfl⟩

theorem lifted (os : Os) (started : os.Started) (H : Type) (enc : TypeId × Value → H) :
    ReturnsInHanded {} Try.checked os 8 .any (Rows.viewBackSpec.pre6 enc Try.prog Try.f8 Rows.viewBackRow.domain false) (Rows.viewBackSpec.post enc Try.prog Try.f8 false true false false) :=
  LawFrame.lifted (C := Try.checked) (tb := 4) (by kernel_rfl) started (by kernel_rfl) Try.func8 isLaw (by kernel_rfl) Try.underlying4 (by kernel_rfl)
    (by rw [Try.params8]; intro t ht; simp at ht; rcases ht with rfl | rfl | rfl <;> exact ⟨by kernel_rfl, of_decide_eq_true (by kernel_rfl)⟩)
    (ChangeSpec.witness6 (enc := enc) (C := Try.checked) false ⟨#[], #[.string ByteArray.empty, .int .u64 0, .int .i64 0], []⟩ 8 (by kernel_rfl) (by kernel_rfl) (by kernel_rfl) (by kernel_rfl)) walk

theorem over : Rows.viewBackRow.holds Try.pinned (OpenSpec.ofChange Rows.viewBackSpec) :=
  OpenClaim.holds_of_wide 8 Try.f8 rfl rfl rfl rfl rfl rfl rfl ⟨rfl, rfl, rfl, rfl, rfl⟩ rfl rfl rfl rfl rfl (by kernel_rfl) Try.func8 (by kernel_rfl)
    (of_decide_eq_true (by kernel_rfl)) (by unfold Func.isWrapper; first | (rw [if_pos (by decide +kernel)]; kernel_rfl) | (rw [if_neg (by decide +kernel)]; exact ⟨rfl, rfl⟩))
    (fun os started H enc _ => lifted os started H enc)

/-- ████ THE STATEMENT ████ -/
theorem proved : Rows.ViewBackSaid := over
#print axioms proved
end Go.Proofs.Ytajaonnpekdklaa.viewBack
