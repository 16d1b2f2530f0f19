/-
  Whatever list of fields and whatever operators: the type that a fold gives is the one that the document's sentences give, and New says the same: FoldTypes returns true. No conditions but the card's own: the listed variables hold what the program's text lays.
-/
import Derived.Test.YtcllfbhlnjgomaaGreatDoorAwake
import Derived.Test.YtcllfbhlnjgomaaGreatDoorGb
namespace Go.Proofs.YtcllfbhlnjgomaaGreatDoor.foldTypes
open Go Go.ChangeShapes Go.WideShapes Go.ChangeAt Go.Am Go.RowKit Go.Fld
set_option linter.unusedVariables false
set_option maxRecDepth 100000

theorem isLaw : LawFrame.IsLaw Rows.foldTypesSpec 2 := ⟨rfl, fun H ds h => by match ds, h with | [_, _], _ => rfl⟩

theorem says_flat : ∀ k : Nat, k ≤ 20 → (flatV (Rows.laid_colonnade_kind_says (H := Unit)))[k * 4 + 3]? = some (.bool (decide (3 ≤ k) && decide (k ≤ 10)))
  | 0, _ => by kernel_rfl
  | 1, _ => by kernel_rfl
  | 2, _ => by kernel_rfl
  | 3, _ => by kernel_rfl
  | 4, _ => by kernel_rfl
  | 5, _ => by kernel_rfl
  | 6, _ => by kernel_rfl
  | 7, _ => by kernel_rfl
  | 8, _ => by kernel_rfl
  | 9, _ => by kernel_rfl
  | 10, _ => by kernel_rfl
  | 11, _ => by kernel_rfl
  | 12, _ => by kernel_rfl
  | 13, _ => by kernel_rfl
  | 14, _ => by kernel_rfl
  | 15, _ => by kernel_rfl
  | 16, _ => by kernel_rfl
  | 17, _ => by kernel_rfl
  | 18, _ => by kernel_rfl
  | 19, _ => by kernel_rfl
  | 20, _ => by kernel_rfl
  | k + 21, h => by omega

theorem says_at {W : World} (h : laidMetH Tryz.prog laidL W) : SaysAt W := fun k hk => by
  have h : laidMet Tryz.prog laidL W := h
  exact reads_flat (Lib.laidMet.reads h (n := "colonnade/kind.says") (d := Rows.laid_colonnade_kind_says) (by simp [laidL])) (g := 0) (t := 169) (by kernel_rfl) (by kernel_rfl) (by kernel_rfl) (k * 4 + 3) _ (says_flat k hk)

theorem walk {H : Type} {enc : TypeId × Value → H} (W : World) (args : Array Value) (ds : List (DataW H)) (told : LawFrame.Told enc Tryz.prog Tryz.f4 W args ds) (hL : laidMetH Tryz.prog laidL W) :
    Calls Tryz.prog 4 args W fun e W' => e = .returned (.bool true) ∧ Below W.heap.size W W' := by
  obtain ⟨⟨p, hA, _⟩, ⟨base, hval⟩, _⟩ := told
  rw [Tryz.params4] at hA hval
  obtain ⟨v0, v1, d0, d1, p0, p1, rfl, rfl, rfl, ⟨n0, h0⟩, ⟨n1, h1⟩⟩ := trodAll_two hA
  obtain ⟨q0, l0, k0, rfl⟩ := okWide_slice Tryz.underlying23 (hval 0 23 v0 rfl rfl)
  obtain ⟨q1, l1, k1, rfl⟩ := okWide_slice Tryz.underlying24 (hval 1 24 v1 rfl rfl)
  obtain ⟨L, hl⟩ := fds_open n0 _ _ h0
  obtain ⟨xs, hx⟩ := ints_open h1
  exact law_calls hl hx (says_at hL) (awake_calls hL)

theorem lifted (os : Os) (started : os.Started) (H : Type) (enc : TypeId × Value → H) :
    ReturnsInHanded {} Tryz.checked os 4 .any (fun w args => (Rows.foldTypesSpec.pre enc Tryz.prog Tryz.f4 [] false w args ∧ laidMetH Tryz.prog laidL w) ∧ sizedMet enc Tryz.prog Tryz.f4 (OpenSpec.ofChange Rows.foldTypesSpec) false w args)
      (Rows.foldTypesSpec.post enc Tryz.prog Tryz.f4 false true false false) :=
  LawFrame.lifted (C := Tryz.checked) (tb := 4) (by kernel_rfl) started (by kernel_rfl) Tryz.func4 isLaw (by kernel_rfl) Tryz.underlying4 (by kernel_rfl)
    (by rw [Tryz.params4]; intro t ht; simp at ht; rcases ht with rfl | rfl <;> exact ⟨by kernel_rfl, of_decide_eq_true (by kernel_rfl)⟩)
    (ChangeSpec.witness_at (enc := enc) (C := Tryz.checked) (os := os) (X := fun w _ => laidMetH Tryz.prog laidL w) false (World.laidAll Tryz.prog os laidL) #[.slice none 0 0, .slice none 0 0] 8 (World.laidAll_os _ _ _) (by kernel_rfl) (by kernel_rfl) (by kernel_rfl) (by kernel_rfl) (by kernel_rfl)
      (laidMet_laidAll #[.slice none 0 0, .slice none 0 0] (by kernel_rfl) (by kernel_rfl))) walk

theorem over : Rows.FoldTypesSaid :=
  OpenClaim.holds_of_wide 4 Tryz.f4 rfl rfl rfl rfl rfl rfl rfl ⟨rfl, rfl, rfl, rfl, rfl⟩ rfl rfl rfl rfl rfl (by kernel_rfl) Tryz.func4 (by kernel_rfl)
    (of_decide_eq_true (by kernel_rfl)) (by unfold Func.isWrapper; first | (rw [if_pos (by decide +kernel)]; kernel_rfl) | (rw [if_neg (by decide +kernel)]; exact ⟨rfl, rfl⟩))
    (fun os started H enc _ => lifted os started H enc)

/-- ████ THE STATEMENT ████ -/
theorem proved : Rows.FoldTypesCardSaid :=
  Claim7.holds_tied_plain_at .later [] [.data, .data, .pinned] true (true, "4d476a8165a125e51e9814e3bf91e11b03cae5e67572aa73725798acf463a28e") true
    over (fun _ h => by cases h) (by kernel_rfl) (fun _ h => by cases h) foldTypes_row_tie rfl ⟨rfl, rfl⟩ (by kernel_rfl) rfl
    (fun f fn hf hfn => by
      obtain rfl : f = 4 := Option.some.inj ((show Tryz.prog.funcNamed "colonnade/colonnadelaw18.FoldTypes" = some 4 by kernel_rfl).symm.trans hf) |>.symm
      obtain rfl : fn = Tryz.f4 := (Option.some.inj (Tryz.func4.symm.trans hfn)).symm
      exact ⟨by kernel_rfl, fun j t ht => by
        rw [Tryz.params4] at ht
        rcases j with _ | _ | j
        · simp at ht; subst ht; kernel_rfl
        · simp at ht; subst ht; kernel_rfl
        · simp at ht⟩)
    (by kernel_rfl)
#print axioms proved
end Go.Proofs.YtcllfbhlnjgomaaGreatDoor.foldTypes
