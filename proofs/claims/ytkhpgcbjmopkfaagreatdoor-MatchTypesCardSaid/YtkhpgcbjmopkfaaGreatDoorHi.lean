import Derived.Test.YtkhpgcbjmopkfaaGreatDoorHb
set_option linter.unusedVariables false
set_option maxRecDepth 100000
/-!
  ARE TWO SCHEMAS WITHOUT NOTES THE SAME? No conditions.
-/
namespace Go.Fld
open Go Go.RowKit Go.Proofs Go.ChangeShapes Go.WideShapes Go.ChangeAt Go.Shelf

theorem eqL_refl (L : List Fd) : eqL L L = true := eqL_all rfl (fun i _ _ => eqF_refl _)

set_option maxHeartbeats 1000000 in
theorem same_calls {w : World} {L : List Fd} {v1 v2 : Value} (h1 : FdsAt w L v1) (h2 : FdsAt w L v2) :
    Calls Tryz.prog 10 #[.agg #[v1, .slice none 0 0], .agg #[v2, .slice none 0 0]] w (BoolPost w true) := by
  have H1 := Lib.hid h1
  have H2 := Lib.hid h2
  obtain ⟨p1, c1, rfl, -, -, -⟩ := h1
  obtain ⟨p2, c2, rfl, -, -, -⟩ := h2
  obtain ⟨W, hW⟩ : ∃ W, W = (w.alloc (.cells #[.slice p1 L.length c1, .slice none 0 0] 26)).alloc (.cells #[.slice p2 L.length c2, .slice none 0 0] 26) := ⟨_, rfl⟩
  have a1 : BoxN W w.heap.size 26 [.slice p1 L.length c1, .slice none 0 0] := by
    rw [hW]
    exact (BoxN.new w 26 [.slice p1 L.length c1, .slice none 0 0]).alloc _
  have a2 : BoxN W (w.heap.size + 1) 26 [.slice p2 L.length c2, .slice none 0 0] := by
    rw [hW]
    have := BoxN.new (w.alloc (.cells #[.slice p1 L.length c1, .slice none 0 0] 26)) 26 [.slice p2 L.length c2, .slice none 0 0]
    rwa [World.size_alloc] at this
  have hBW : Below w.heap.size w W := by rw [hW]; exact ((Below.refl _ w).alloc (Nat.le_refl _) _).alloc (by simp) _
  have A1 := Lib.hid a1
  have A2 := Lib.hid a2
  have HBW := Lib.hid hBW
  have HW := Lib.hid hW
  clear a1 a2 hBW hW
  go_enter Tryz.func10, Tryz.ntmps10
  go_wp2_with fail
  rw [← HW.out]
  refine (eqs_calls (H1.out.below HBW.out) (H2.out.below HBW.out) (fun f' hf' g' w' a b c d x y => eq_calls f' g' w' a b c d x y)).mono ?_
  rintro e W2 ⟨rfl, hb2⟩
  have hb2' := hb2
  rw [eqL_refl]
  have HB := Lib.hid (HBW.out.trans (hb2.mono HBW.out.size))
  have B1 := A1.out.below hb2 A1.out.lt
  have B2 := A2.out.below hb2 A2.out.lt
  have r0 := B1.row 0 _ rfl
  have r1 := B1.row 1 _ rfl
  have s0 := B2.row 0 _ rfl
  have s1 := B2.row 1 _ rfl
  have hl1 := B1.lt
  have hl2 := B2.lt
  clear B1 B2 hb2 hb2' HW
  go_wp2_with fail
  go_loopw [24] (fun i wr => i = .int .i64 0 ∧ Hid (Below w.heap.size w wr)) (fun i _ => 0)
  case atStart => exact ⟨rfl, HB⟩
  case round =>
    obtain ⟨rfl, HR⟩ := hrel
    go_wp2_with fail
    go_ret
    exact bool_post rfl HR.out

end Go.Fld
