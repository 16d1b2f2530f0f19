/-
  Whatever two sides: each left row is in just one of semi and anti, inner lies within left within full: MatchKinds returns true. No conditions but the card's own: the listed variables hold what the program's text lays.
-/
import Derived.Test.YtkhpgcbjmopkfaaGreatDoorT00
import Derived.Test.YtkhpgcbjmopkfaaGreatDoorT02
import Derived.Test.YtkhpgcbjmopkfaaGreatDoorU29
import Derived.SevenTiedAt
import Derived.Test.YtkhpgcbjmopkfaaGreatDoorCards
import Derived.Test.YtkhpgcbjmopkfaaGreatDoorTie
set_option linter.unusedVariables false
set_option linter.unusedSimpArgs false
set_option linter.unnecessarySimpa false
set_option maxRecDepth 100000
namespace Go.Fld
open Go Go.ChangeShapes Go.WideShapes Go.ChangeAt Go.RowKit Go.Proofs Go.Proofs.YtkhpgcbjmopkfaaGreatDoor
noncomputable def laidL : List (String × DataW Unit) := [("unicode/utf8.acceptRanges", Rows.laid_unicode_utf8_acceptRanges), ("colonnade/kind.says", Rows.laid_colonnade_kind_says), ("unicode/utf8.first", Rows.laid_unicode_utf8_first)]
theorem says_flat' : ∀ k : Nat, k ≤ 20 → (Am.flatV (Rows.laid_colonnade_kind_says (H := Unit)))[k * 4 + 1]? = some (.int .i64 (sayW k)) ∧ (Am.flatV (Rows.laid_colonnade_kind_says (H := Unit)))[k * 4 + 2]? = some (.int .i64 (sayB k)) ∧ (Am.flatV (Rows.laid_colonnade_kind_says (H := Unit)))[k * 4 + 3]? = some (.bool (decide (3 ≤ k) && decide (k ≤ 10)))
 | 0, _ => ⟨by kernel_rfl, by kernel_rfl, by kernel_rfl⟩
 | 1, _ => ⟨by kernel_rfl, by kernel_rfl, by kernel_rfl⟩
 | 2, _ => ⟨by kernel_rfl, by kernel_rfl, by kernel_rfl⟩
 | 3, _ => ⟨by kernel_rfl, by kernel_rfl, by kernel_rfl⟩
 | 4, _ => ⟨by kernel_rfl, by kernel_rfl, by kernel_rfl⟩
 | 5, _ => ⟨by kernel_rfl, by kernel_rfl, by kernel_rfl⟩
 | 6, _ => ⟨by kernel_rfl, by kernel_rfl, by kernel_rfl⟩
 | 7, _ => ⟨by kernel_rfl, by kernel_rfl, by kernel_rfl⟩
 | 8, _ => ⟨by kernel_rfl, by kernel_rfl, by kernel_rfl⟩
 | 9, _ => ⟨by kernel_rfl, by kernel_rfl, by kernel_rfl⟩
 | 10, _ => ⟨by kernel_rfl, by kernel_rfl, by kernel_rfl⟩
 | 11, _ => ⟨by kernel_rfl, by kernel_rfl, by kernel_rfl⟩
 | 12, _ => ⟨by kernel_rfl, by kernel_rfl, by kernel_rfl⟩
 | 13, _ => ⟨by kernel_rfl, by kernel_rfl, by kernel_rfl⟩
 | 14, _ => ⟨by kernel_rfl, by kernel_rfl, by kernel_rfl⟩
 | 15, _ => ⟨by kernel_rfl, by kernel_rfl, by kernel_rfl⟩
 | 16, _ => ⟨by kernel_rfl, by kernel_rfl, by kernel_rfl⟩
 | 17, _ => ⟨by kernel_rfl, by kernel_rfl, by kernel_rfl⟩
 | 18, _ => ⟨by kernel_rfl, by kernel_rfl, by kernel_rfl⟩
 | 19, _ => ⟨by kernel_rfl, by kernel_rfl, by kernel_rfl⟩
 | 20, _ => ⟨by kernel_rfl, by kernel_rfl, by kernel_rfl⟩
 | k + 21, h => by omega
theorem first_flat : Am.flatV Rows.laid_unicode_utf8_first = (List.range 256).map fun c => Value.int .u8 (Lib.firstT c) := by kernel_rfl
theorem acc_flat : Am.flatV (Rows.laid_unicode_utf8_acceptRanges (H := Unit)) = (List.range 16).flatMap fun i => [Value.int .u8 (Lib.accLo i), Value.int .u8 (Lib.accHi i)] := by kernel_rfl
theorem flatMap2_get {α β : Type} (f g : α → β) : ∀ (l : List α) (i : Nat) (hi : i < l.length), (l.flatMap fun x => [f x, g x])[2 * i]? = some (f l[i]) ∧ (l.flatMap fun x => [f x, g x])[2 * i + 1]? = some (g l[i])
 | x :: r, 0, _ => ⟨rfl, rfl⟩
 | x :: r, i + 1, hi => by
  have := flatMap2_get f g r i (by simpa using hi)
  rw [List.flatMap_cons]
  rw [show 2 * (i + 1) = 2 * i + 1 + 1 by omega]
  exact this
theorem tabs_at {W : World} (h : laidMetH Tryz.prog laidL W) : TabsAt W := by
 have h : laidMet Tryz.prog laidL W := h
 have hs := Am.reads_flat (Lib.laidMet.reads h (n := "colonnade/kind.says") (d := Rows.laid_colonnade_kind_says) (by simp [laidL])) (g := 0) (t := 109) (by kernel_rfl) (by kernel_rfl) (by kernel_rfl)
 have hf := Am.reads_flat (Lib.laidMet.reads h (n := "unicode/utf8.first") (d := Rows.laid_unicode_utf8_first) (by simp [laidL])) (g := 1) (t := 196) (by kernel_rfl) (by kernel_rfl) (by kernel_rfl)
 have ha := Am.reads_flat (Lib.laidMet.reads h (n := "unicode/utf8.acceptRanges") (d := Rows.laid_unicode_utf8_acceptRanges) (by simp [laidL])) (g := 2) (t := 199) (by kernel_rfl) (by kernel_rfl) (by kernel_rfl)
 refine ⟨fun k hk => hs _ _ (says_flat' k hk).2.2, fun k hk => ⟨hs _ _ (says_flat' k hk).1, hs _ _ (says_flat' k hk).2.1⟩, fun c hc => hf c _ ?_, fun i hi => ?_⟩
 ·rw [first_flat, List.getElem?_map, List.getElem?_range hc]; rfl
 ·have := flatMap2_get (fun i => Value.int .u8 (Lib.accLo i)) (fun i => Value.int .u8 (Lib.accHi i)) (List.range 16) i (by simpa using hi)
  rw [List.getElem_range] at this
  refine ⟨ha _ _ ?_, ha _ _ ?_⟩
  ·rw [acc_flat]; exact this.1
  ·rw [acc_flat]; exact this.2
end Go.Fld
namespace Go.Proofs.YtkhpgcbjmopkfaaGreatDoor.matchKinds
open Go Go.ChangeShapes Go.WideShapes Go.ChangeAt Go.Am Go.RowKit Go.Fld Go.Proofs
theorem isLaw : LawFrame.IsLaw Rows.matchKindsSpec 2 := ⟨rfl, fun H ds h => by match ds, h with | [_, _], _ => rfl⟩
theorem walk {H : Type} {enc : TypeId × Value → H} (W : World) (args : Array Value) (ds : List (DataW H)) (told : LawFrame.Told enc Tryz.prog Tryz.f5 W args ds) (hL : laidMetH Tryz.prog laidL W) :
  Calls Tryz.prog 5 args W fun e W' => e = .returned (.bool true) ∧ Below W.heap.size W W' := by
 obtain ⟨⟨p, hA, _⟩, ⟨base, hval⟩, hsz⟩ := told
 rw [Tryz.params5] at hA hval hsz
 obtain ⟨v0, v1, d0, d1, p0, p1, rfl, rfl, -, h0, h1⟩ := trodAll_two hA
 obtain ⟨f1, n1, cv1, k1, m1, L1, N1, K1, l1, rfl, hL1, hN1, hK1, hm1, hl1, ho1⟩ := wside_open (hval 0 32 v0 rfl rfl) h0
 obtain ⟨f2, n2, cv2, k2, m2, L2, N2, K2, l2, rfl, hL2, hN2, hK2, hm2, hl2, ho2⟩ := wside_open (hval 1 32 v1 rfl rfl) h1
 have hT := tabs_at hL
 exact kinds_calls (x := ⟨L1, sizesOf N1, m1, l1, K1⟩) (y := ⟨L2, sizesOf N2, m2, l2, K2⟩) ⟨hL1, hN1, rfl, hK1, hl1, ho1, hm1⟩ ⟨hL2, hN2, rfl, hK2, hl2, ho2, hm2⟩ hT (fun V hV => awake_yes (hT.below hV))
theorem lifted (os : Os) (started : os.Started) (H : Type) (enc : TypeId × Value → H) :
  ReturnsInHanded {} Tryz.checked os 5 .any (fun w args => (Rows.matchKindsSpec.pre enc Tryz.prog Tryz.f5 [] false w args ∧ laidMetH Tryz.prog laidL w) ∧ sizedMet enc Tryz.prog Tryz.f5 (OpenSpec.ofChange Rows.matchKindsSpec) false w args)
   (Rows.matchKindsSpec.post enc Tryz.prog Tryz.f5 false true false false) :=
 LawFrame.lifted (C := Tryz.checked) (tb := 4) (by kernel_rfl) started (by kernel_rfl) Tryz.func5 isLaw (by kernel_rfl) Tryz.underlying4 (by kernel_rfl)
  (by rw [Tryz.params5]; intro t ht; simp at ht; rcases ht with rfl | rfl <;> exact ⟨by kernel_rfl, of_decide_eq_true (by kernel_rfl)⟩)
  (ChangeSpec.witness_at (enc := enc) (C := Tryz.checked) (os := os) (X := fun w _ => laidMetH Tryz.prog laidL w) false (World.laidAll Tryz.prog os laidL) #[.agg #[.slice none 0 0, .slice none 0 0, .int .i64 0, .slice none 0 0, .slice none 0 0], .agg #[.slice none 0 0, .slice none 0 0, .int .i64 0, .slice none 0 0, .slice none 0 0]] 8 (World.laidAll_os _ _ _) (by kernel_rfl) (by kernel_rfl) (by kernel_rfl) (by kernel_rfl) (by kernel_rfl)
   (laidMet_laidAll #[.agg #[.slice none 0 0, .slice none 0 0, .int .i64 0, .slice none 0 0, .slice none 0 0], .agg #[.slice none 0 0, .slice none 0 0, .int .i64 0, .slice none 0 0, .slice none 0 0]] (by kernel_rfl) (by kernel_rfl))) walk
theorem over : Rows.MatchKindsSaid :=
 OpenClaim.holds_of_wide 5 Tryz.f5 rfl rfl rfl rfl rfl rfl rfl ⟨rfl, rfl, rfl, rfl, rfl⟩ rfl rfl rfl rfl rfl (by kernel_rfl) Tryz.func5 (by kernel_rfl)
  (of_decide_eq_true (by kernel_rfl)) (by unfold Func.isWrapper; first | (rw [if_pos (by decide +kernel)]; kernel_rfl) | (rw [if_neg (by decide +kernel)]; exact ⟨rfl, rfl⟩))
  (fun os started H enc _ => lifted os started H enc)
theorem proved : Rows.MatchKindsCardSaid :=
 Claim7.holds_tied_plain_at .later [] [.data, .data, .pinned] true (true, "892868470b3f2a488fe664a36973bb9110293faf66af52814eebc00316d783aa") true
  over (fun _ h => by cases h) (by kernel_rfl) (fun _ h => by cases h) matchKinds_row_tie rfl ⟨rfl, rfl⟩ (by kernel_rfl) rfl
  (fun f fn hf hfn => by
   obtain rfl : f = 5 := Option.some.inj ((show Tryz.prog.funcNamed "colonnade/colonnadelaw21.MatchKinds" = some 5 by kernel_rfl).symm.trans hf) |>.symm
   obtain rfl : fn = Tryz.f5 := (Option.some.inj (Tryz.func5.symm.trans hfn)).symm
   exact ⟨by kernel_rfl, fun j t ht => by
    rw [Tryz.params5] at ht
    rcases j with _ | _ | j
    ·simp at ht; subst ht; kernel_rfl
    ·simp at ht; subst ht; kernel_rfl
    ·simp at ht⟩)
  (by kernel_rfl)
#print axioms proved
end Go.Proofs.YtkhpgcbjmopkfaaGreatDoor.matchKinds
