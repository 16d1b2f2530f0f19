/-
  Whatever two sides and whatever kinds: the schema that a join tells is the one that the document's sentences give: MatchTypes returns true. No conditions but the card's own: the listed variables hold what the program's text lays.
-/
import Derived.Test.YtkhpgcbjmopkfaaGreatDoorAwake
import Derived.Test.YtkhpgcbjmopkfaaGreatDoorHq
import Derived.Test.YtkhpgcbjmopkfaaGreatDoorHm
namespace Go.Proofs.YtkhpgcbjmopkfaaGreatDoor.matchTypes
open Go Go.ChangeShapes Go.WideShapes Go.ChangeAt Go.Am Go.RowKit Go.Fld
set_option linter.unusedVariables false
set_option maxRecDepth 100000

theorem isLaw : LawFrame.IsLaw Rows.matchTypesSpec 3 := ⟨rfl, fun H ds h => by match ds, h with | [_, _, _], _ => rfl⟩

theorem says_flat : ∀ k : Nat, k ≤ 20 → (flatV (Rows.laid_colonnade_kind_says (H := Unit)))[k * 4 + 3]? = some (.bool (decide (3 ≤ k) && decide (k ≤ 10)))
  | 0, _ => by kernel_rfl
  | 1, _ => by kernel_rfl
  | 2, _ => by kernel_rfl
  | 3, _ => by kernel_rfl
  | 4, _ => by kernel_rfl
  | 5, _ => by kernel_rfl
  | 6, _ => by kernel_rfl
  | 7, _ => by kernel_rfl
  | 8, _ => by kernel_rfl
  | 9, _ => by kernel_rfl
  | 10, _ => by kernel_rfl
  | 11, _ => by kernel_rfl
  | 12, _ => by kernel_rfl
  | 13, _ => by kernel_rfl
  | 14, _ => by kernel_rfl
  | 15, _ => by kernel_rfl
  | 16, _ => by kernel_rfl
  | 17, _ => by kernel_rfl
  | 18, _ => by kernel_rfl
  | 19, _ => by kernel_rfl
  | 20, _ => by kernel_rfl
  | k + 21, h => by omega

theorem says_at {W : World} (h : laidMetH Tryz.prog laidL W) : SaysAt W := fun k hk => by
  have h : laidMet Tryz.prog laidL W := h
  exact reads_flat (Lib.laidMet.reads h (n := "colonnade/kind.says") (d := Rows.laid_colonnade_kind_says) (by simp [laidL])) (g := 0) (t := 109) (by kernel_rfl) (by kernel_rfl) (by kernel_rfl) (k * 4 + 3) _ (says_flat k hk)

/-- What is laid lies on where nothing old is written. -/
theorem glob_below {w W : World} (h : laidMetH Tryz.prog laidL w) (hB : Below w.heap.size w W) : ∃ g : Gh, Rel g St.empty W ∧ GlobOk gOf g W ∧ g.base = W.heap.size := by
  have h : laidMet Tryz.prog laidL w := h
  let g : Gh := { base := W.heap.size, use := fun _ => False, blk := fun _ => 0, fix := fun b _ => b < W.heap.size, tuse := fun _ => False, tok := fun _ => ⟨0, 0, 0, 0, 0⟩ }
  have key : ∀ {n : String} {d : DataW Unit} {i : Nat} {t : TypeId}, (n, d) ∈ laidL → Tryz.prog.globalNamed n = some i → (Tryz.prog.globals[i]?).map (·.type) = some t → flatB Tryz.prog t d = true → cellsD d = (flatV d).map .val → Rep g W (.rptr (cellsD d) 0) (.pointer (some ⟨i, 0, none⟩)) := by
    intro n d i t hm hg ht hb hc
    have hrd := reads_flat (Lib.laidMet.reads h hm) hg ht hb
    simp only [Rep]
    refine ⟨i, 0, flatV d, rfl, by rw [hc]; exact repAll_vals _, fun j u hj => ?_⟩
    have := cell_below hB (hrd j u hj)
    rw [Nat.zero_add]
    refine ⟨this, ?_⟩
    show i < W.heap.size
    unfold World.cell? at this
    cases hk : W.heap[i]? with
    | none => rw [hk] at this; cases this
    | some o => exact (Array.getElem?_eq_some_iff.1 hk).1
  refine ⟨g, ?_, ?_, rfl⟩
  · exact ⟨Nat.le_refl _, (fun i o h => by cases h), fun i h => h.elim, fun i j h => h.elim, fun i h => h.elim, (fun t n h => by cases h), fun t h => h.elim, fun t u h => h.elim, fun i t h => h.elim, fun b j h => h⟩
  · intro i a hi
    match i, hi with
    | 0, hi => cases hi; exact key (n := "colonnade/kind.says") (t := 109) (by simp [laidL]) (by kernel_rfl) (by kernel_rfl) (by kernel_rfl) (by kernel_rfl)
    | 1, hi => cases hi; exact key (n := "unicode/utf8.first") (t := 196) (by simp [laidL]) (by kernel_rfl) (by kernel_rfl) (by kernel_rfl) (by kernel_rfl)
    | 2, hi => cases hi; exact key (n := "unicode/utf8.acceptRanges") (t := 199) (by simp [laidL]) (by kernel_rfl) (by kernel_rfl) (by kernel_rfl) (by kernel_rfl)
    | _ + 3, hi => cases hi

/-- A call that bears no number, where nothing old was written. -/
theorem closed_below {f : FuncId} {v : Value} (hc : ClosedOk Tryz.prog gOf f [] (.val v)) {w W : World} (h : laidMetH Tryz.prog laidL w) (hB : Below w.heap.size w W) : Calls Tryz.prog f #[] W fun e W' => e = .returned v ∧ Below W.heap.size W W' := by
  obtain ⟨g, rel, glob, hb⟩ := glob_below h hB
  refine (callsIn_wide.1 (hc g W St.empty [] rel glob (by simp [RepAll]))).mono ?_
  intro e W' he
  cases e with
  | returned u =>
    obtain ⟨g', ext, _, hr⟩ := he
    simp only [Rep] at hr
    subst hr
    exact ⟨rfl, hb ▸ ext.below⟩
  | panicked c => exact he.elim
  | outgrown => exact he.elim

theorem ints_few {H : Type} {enc : TypeId × Value → H} {W : World} {v : Value} {d : DataW H} {ps : List MemPlace} {xs : List Int} (h : DataW.Trod enc Tryz.prog W 0 (fun _ => true) true 30 v d ps) (hx : IntsAt W xs v)
    (hw : (d.weights Tryz.prog 30).all (· ≤ reachBytes) = true) : xs.length * 8 ≤ 0x7ffffffff000 := by
  obtain ⟨p, cap, rfl, _, _, _⟩ := hx
  obtain ⟨_, _, CS, D, n, _, h4⟩ := Open.slice Tryz.underlying30 (by decide +kernel) h
  rcases h4 with ⟨_, h0⟩ | ⟨sp, rfl, _⟩
  · rw [h0]; decide
  · rw [DataW.weights, Tryz.underlying30] at hw
    have h8 : Tryz.prog.bytesOf 3 = 8 := by kernel_rfl
    simp only [List.all_cons, Bool.and_eq_true, decide_eq_true_eq, List.length_map, List.length_range, h8] at hw
    have := hw.1
    unfold reachBytes at this
    omega

theorem walk {H : Type} {enc : TypeId × Value → H} (W : World) (args : Array Value) (ds : List (DataW H)) (told : LawFrame.Told enc Tryz.prog Tryz.f4 W args ds) (hL : laidMetH Tryz.prog laidL W) :
    Calls Tryz.prog 4 args W fun e W' => e = .returned (.bool true) ∧ Below W.heap.size W W' := by
  obtain ⟨⟨p, hA, _⟩, ⟨base, hval⟩, hsz⟩ := told
  rw [Tryz.params4] at hA hval hsz
  obtain ⟨v0, v1, v2, d0, d1, d2, p0, p1, p2, rfl, rfl, rfl, h0, h1, h2⟩ := trodAll_three hA
  obtain ⟨f1, n1, rv1, cv1, k1, L1, N1, K1, rfl, hL1, hN1, hK1⟩ := side_open (hval 0 32 v0 rfl rfl) h0
  obtain ⟨f2, n2, rv2, cv2, k2, L2, N2, K2, rfl, hL2, hN2, hK2⟩ := side_open (hval 1 32 v1 rfl rfl) h1
  obtain ⟨q2, l2, c2, rfl⟩ := okWide_slice Tryz.underlying30 (hval 2 30 v2 rfl rfl)
  have h2' := h2
  obtain ⟨n, hn⟩ := h2'
  obtain ⟨xs, hx⟩ := ints_open hn
  have hw : (DataW.weights Tryz.prog 30 d2).all (· ≤ reachBytes) = true := by
    have h := hsz
    simp only [DataW.weightsEach, List.append_nil, List.all_append, Bool.and_eq_true] at h
    exact h.2.2
  exact law_calls hL1 hN1 hK1 hL2 hN2 hK2 hx (ints_few h2 hx hw) (says_at hL) (fun V hV => closed_below (closed_of_eval ok24 t24) hL hV)

theorem lifted (os : Os) (started : os.Started) (H : Type) (enc : TypeId × Value → H) :
    ReturnsInHanded {} Tryz.checked os 4 .any (fun w args => (Rows.matchTypesSpec.pre enc Tryz.prog Tryz.f4 [] false w args ∧ laidMetH Tryz.prog laidL w) ∧ sizedMet enc Tryz.prog Tryz.f4 (OpenSpec.ofChange Rows.matchTypesSpec) false w args)
      (Rows.matchTypesSpec.post enc Tryz.prog Tryz.f4 false true false false) :=
  LawFrame.lifted (C := Tryz.checked) (tb := 4) (by kernel_rfl) started (by kernel_rfl) Tryz.func4 isLaw (by kernel_rfl) Tryz.underlying4 (by kernel_rfl)
    (by rw [Tryz.params4]; intro t ht; simp at ht; rcases ht with rfl | rfl | rfl <;> exact ⟨by kernel_rfl, of_decide_eq_true (by kernel_rfl)⟩)
    (ChangeSpec.witness_at (enc := enc) (C := Tryz.checked) (os := os) (X := fun w _ => laidMetH Tryz.prog laidL w) false (World.laidAll Tryz.prog os laidL) #[.agg #[.slice none 0 0, .slice none 0 0, .int .i64 0, .slice none 0 0, .slice none 0 0], .agg #[.slice none 0 0, .slice none 0 0, .int .i64 0, .slice none 0 0, .slice none 0 0], .slice none 0 0] 8 (World.laidAll_os _ _ _) (by kernel_rfl) (by kernel_rfl) (by kernel_rfl) (by kernel_rfl) (by kernel_rfl)
      (laidMet_laidAll #[.agg #[.slice none 0 0, .slice none 0 0, .int .i64 0, .slice none 0 0, .slice none 0 0], .agg #[.slice none 0 0, .slice none 0 0, .int .i64 0, .slice none 0 0, .slice none 0 0], .slice none 0 0] (by kernel_rfl) (by kernel_rfl))) walk

theorem over : Rows.MatchTypesSaid :=
  OpenClaim.holds_of_wide 4 Tryz.f4 rfl rfl rfl rfl rfl rfl rfl ⟨rfl, rfl, rfl, rfl, rfl⟩ rfl rfl rfl rfl rfl (by kernel_rfl) Tryz.func4 (by kernel_rfl)
    (of_decide_eq_true (by kernel_rfl)) (by unfold Func.isWrapper; first | (rw [if_pos (by decide +kernel)]; kernel_rfl) | (rw [if_neg (by decide +kernel)]; exact ⟨rfl, rfl⟩))
    (fun os started H enc _ => lifted os started H enc)

/-- ████ THE STATEMENT ████ -/
theorem proved : Rows.MatchTypesCardSaid :=
  Claim7.holds_tied_plain_at .later [] [.data, .data, .pinned] true (true, "892868470b3f2a488fe664a36973bb9110293faf66af52814eebc00316d783aa") true
    over (fun _ h => by cases h) (by kernel_rfl) (fun _ h => by cases h) matchTypes_row_tie rfl ⟨rfl, rfl⟩ (by kernel_rfl) rfl
    (fun f fn hf hfn => by
      obtain rfl : f = 4 := Option.some.inj ((show Tryz.prog.funcNamed "colonnade/colonnadelaw21.MatchTypes" = some 4 by kernel_rfl).symm.trans hf) |>.symm
      obtain rfl : fn = Tryz.f4 := (Option.some.inj (Tryz.func4.symm.trans hfn)).symm
      exact ⟨by kernel_rfl, fun j t ht => by
        rw [Tryz.params4] at ht
        rcases j with _ | _ | _ | j
        · simp at ht; subst ht; kernel_rfl
        · simp at ht; subst ht; kernel_rfl
        · simp at ht; subst ht; kernel_rfl
        · simp at ht⟩)
    (by kernel_rfl)
#print axioms proved
end Go.Proofs.YtkhpgcbjmopkfaaGreatDoor.matchTypes
