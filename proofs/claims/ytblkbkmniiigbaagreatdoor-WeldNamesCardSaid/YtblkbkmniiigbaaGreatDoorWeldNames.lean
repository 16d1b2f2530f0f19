/-
  The kinds and the errors of this layer have the document's numbers, and what the document fixes of it holds: WeldNames returns true. No conditions but the card's own: the listed variables hold what the program's text lays.
-/
import Derived.Test.YtblkbkmniiigbaaGreatDoorAwake
namespace Go.Proofs.YtblkbkmniiigbaaGreatDoor.weldNames
open Go Go.Am Go.RowKit
set_option linter.unusedVariables false
set_option maxRecDepth 100000

theorem isLaw : LawFrame.IsLaw Rows.weldNamesSpec 0 := ⟨rfl, fun H ds h => by match ds, h with | [], _ => rfl⟩

theorem walk {H : Type} {enc : TypeId × Value → H} (W : World) (args : Array Value) (ds : List (DataW H)) (told : LawFrame.Told enc Tryz.prog Tryz.f3 W args ds) (hL : laidMetH Tryz.prog laidL W) :
    Calls Tryz.prog 3 args W fun e W' => e = .returned (.bool true) ∧ Below W.heap.size W W' := by
  obtain ⟨⟨p, hA, _⟩, _, _⟩ := told
  have hn : args = #[] := by
    rw [Tryz.params3] at hA
    cases ha : args.toList with
    | nil => exact Array.toList_eq_nil_iff.1 ha
    | cons a r => rw [ha] at hA; exact hA.elim
  subst hn
  exact closed_calls (closed_of_eval ok15 t15) hL

theorem lifted (os : Os) (started : os.Started) (H : Type) (enc : TypeId × Value → H) :
    ReturnsInHanded {} Tryz.checked os 3 .any (fun w args => (Rows.weldNamesSpec.pre enc Tryz.prog Tryz.f3 [] false w args ∧ laidMetH Tryz.prog laidL w) ∧ sizedMet enc Tryz.prog Tryz.f3 (OpenSpec.ofChange Rows.weldNamesSpec) false w args)
      (Rows.weldNamesSpec.post enc Tryz.prog Tryz.f3 false true false false) :=
  LawFrame.lifted (C := Tryz.checked) (tb := 4) (by kernel_rfl) started (by kernel_rfl) Tryz.func3 isLaw (by kernel_rfl) Tryz.underlying4 (by kernel_rfl)
    (by rw [Tryz.params3]; intro t ht; simp at ht)
    (ChangeSpec.witness_at (enc := enc) (C := Tryz.checked) (os := os) (X := fun w _ => laidMetH Tryz.prog laidL w) false (World.laidAll Tryz.prog os laidL) #[] 8 (World.laidAll_os _ _ _) (by kernel_rfl) (by kernel_rfl) (by kernel_rfl) (by kernel_rfl) (by kernel_rfl)
      (laidMet_laidAll #[] (by kernel_rfl) (by kernel_rfl))) walk

theorem over : Rows.WeldNamesSaid :=
  OpenClaim.holds_of_wide 3 Tryz.f3 rfl rfl rfl rfl rfl rfl rfl ⟨rfl, rfl, rfl, rfl, rfl⟩ rfl rfl rfl rfl rfl (by kernel_rfl) Tryz.func3 (by kernel_rfl)
    (of_decide_eq_true (by kernel_rfl)) (by unfold Func.isWrapper; first | (rw [if_pos (by decide +kernel)]; kernel_rfl) | (rw [if_neg (by decide +kernel)]; exact ⟨rfl, rfl⟩))
    (fun os started H enc _ => lifted os started H enc)

/-- ████ THE STATEMENT ████ -/
theorem proved : Rows.WeldNamesCardSaid :=
  Claim7.holds_tied_plain_at .later [] [.data, .data, .pinned] true (true, "82773e9e5d6ad413adc773bb8fb92490d8120bbafec34f392d1ccf55db74b7f3") true
    over (fun _ h => by cases h) (by kernel_rfl) (fun _ h => by cases h) weldNames_row_tie rfl ⟨rfl, rfl⟩ (by kernel_rfl) rfl
    (fun f fn hf hfn => by
      obtain rfl : f = 3 := Option.some.inj ((show Tryz.prog.funcNamed "colonnade/colonnadelaw15.WeldNames" = some 3 by kernel_rfl).symm.trans hf) |>.symm
      obtain rfl : fn = Tryz.f3 := (Option.some.inj (Tryz.func3.symm.trans hfn)).symm
      exact ⟨by kernel_rfl, fun j t ht => by
        rw [Tryz.params3] at ht
        simp at ht⟩)
    (by kernel_rfl)
#print axioms proved
end Go.Proofs.YtblkbkmniiigbaaGreatDoor.weldNames
