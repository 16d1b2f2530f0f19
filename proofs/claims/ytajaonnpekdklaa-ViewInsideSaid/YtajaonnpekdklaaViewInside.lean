/-
  Cutting a view within a view, for every list of bytes and every four numbers; ViewInside returns true. No conditions.
-/
import Derived.Test.YtajaonnpekdklaaInsideC
import Derived.Test.YtajaonnpekdklaaOpenB
import Derived.Lib.SmallJoins
namespace Go.Proofs.Ytajaonnpekdklaa.viewInside
open Go.ChangeShapes Go.WideShapes Go.ChangeAt Go.RowKit Mem Vw Go.Joins
set_option linter.unusedVariables false
set_option maxRecDepth 100000

theorem walk {H : Type} {enc : TypeId × Value → H} (W : World) (args : Array Value) (ds : List (DataW H)) (told : LawFrame.Told enc Try.prog Try.f6 W args ds) :
    Calls Try.prog 6 args W fun e W' => e = .returned (.bool true) ∧ Below W.heap.size W W' := by
  obtain ⟨⟨p, hA, _⟩, ⟨base, hval⟩, hsz⟩ := told
  rw [Try.params6] at hA hval hsz
  obtain ⟨v0, v1, d0, d1, p0, p1, rfl, rfl, rfl, h0, h1⟩ := trodAll_two hA
  obtain ⟨q, len, cap, rfl⟩ := okWide_slice Try.underlying35 (hval 0 35 v0 rfl rfl)
  obtain ⟨bs, hbl, hr⟩ := Open.bytes Try.underlying35 Try.underlying5 (by kernel_rfl) h0
  obtain ⟨c0, c1, c2, c3, y0, y1, y2, y3, n, rfl, _, _, f0, f1, f2, f3⟩ := open_agg4 Try.underlying47 (by kernel_rfl) (by kernel_rfl) (hval 1 47 v1 rfl rfl) h1
  obtain ⟨f, e0, _, w0⟩ := DataW.trod_int Try.underlying3 f0
  obtain ⟨n, e1, _, w1⟩ := DataW.trod_int Try.underlying3 f1
  obtain ⟨a, e2, _, w2⟩ := DataW.trod_int Try.underlying3 f2
  obtain ⟨m, e3, _, w3⟩ := DataW.trod_int Try.underlying3 f3
  simp at e0 e1 e2 e3
  subst e0 e1 e2 e3
  have b0 := bounds_i64 w0
  have b1 := bounds_i64 w1
  have b2 := bounds_i64 w2
  have b3 := bounds_i64 w3
  by_cases hi : insideB f n len = true
  · obtain ⟨x, y, rfl, rfl, hxy⟩ := insideB_true hi
    by_cases hE : loadE y a m = 0
    · obtain ⟨x2, y2, rfl, rfl, h2, h3, _⟩ := loadE_zero hE
      exact inside_good hr (fun _ _ => rfl) x y x2 y2 hxy h2 h3 hE
    · exact inside_bad hr (fun _ _ => rfl) x y a m hxy b2.2 hE
  · exact inside_no hr (fun _ _ => rfl) f n a m b0.1 b0.2 (by simpa using hi)

theorem isLaw : LawFrame.IsLaw Rows.viewInsideSpec 2 := ⟨rfl, fun H ds h => by match ds, h with | [_, _], _ => rfl⟩

theorem lifted (os : Os) (started : os.Started) (H : Type) (enc : TypeId × Value → H) :
    ReturnsInHanded {} Try.checked os 6 .any (Rows.viewInsideSpec.pre6 enc Try.prog Try.f6 Rows.viewInsideRow.domain false) (Rows.viewInsideSpec.post enc Try.prog Try.f6 false true false false) :=
  LawFrame.lifted (C := Try.checked) (tb := 4) (by kernel_rfl) started (by kernel_rfl) Try.func6 isLaw (by kernel_rfl) Try.underlying4 (by kernel_rfl)
    (by rw [Try.params6]; intro t ht; simp at ht; rcases ht with rfl | rfl <;> exact ⟨by kernel_rfl, of_decide_eq_true (by kernel_rfl)⟩)
    (ChangeSpec.witness6 (enc := enc) (C := Try.checked) false ⟨#[], #[.slice none 0 0, .agg #[.int .i64 0, .int .i64 0, .int .i64 0, .int .i64 0]], []⟩ 8 (by kernel_rfl) (by kernel_rfl) (by kernel_rfl) (by kernel_rfl)) walk

theorem over : Rows.viewInsideRow.holds Try.pinned (OpenSpec.ofChange Rows.viewInsideSpec) :=
  OpenClaim.holds_of_wide 6 Try.f6 rfl rfl rfl rfl rfl rfl rfl ⟨rfl, rfl, rfl, rfl, rfl⟩ rfl rfl rfl rfl rfl (by kernel_rfl) Try.func6 (by kernel_rfl)
    (of_decide_eq_true (by kernel_rfl)) (by unfold Func.isWrapper; first | (rw [if_pos (by decide +kernel)]; kernel_rfl) | (rw [if_neg (by decide +kernel)]; exact ⟨rfl, rfl⟩))
    (fun os started H enc _ => lifted os started H enc)

/-- ████ THE STATEMENT ████ -/
theorem proved : Rows.ViewInsideSaid := over
#print axioms proved
end Go.Proofs.Ytajaonnpekdklaa.viewInside
