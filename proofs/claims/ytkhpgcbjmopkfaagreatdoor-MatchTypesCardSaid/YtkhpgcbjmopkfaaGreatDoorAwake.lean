/-
  The kinds and the errors of joins have the document's numbers; MatchNames returns true. No conditions but the card's own: the listed variables hold what the program's text lays.
-/
import Derived.Test.YtkhpgcbjmopkfaaGreatDoorAmY1
import Derived.Test.YtkhpgcbjmopkfaaGreatDoorFrame
import Derived.Test.YtkhpgcbjmopkfaaGreatDoorCards
import Derived.Test.YtkhpgcbjmopkfaaGreatDoorTie
import Derived.SevenTiedAt
set_option linter.unusedVariables false
set_option maxRecDepth 100000
namespace Go.Proofs.YtkhpgcbjmopkfaaGreatDoor
open Go Go.Am Go.RowKit

noncomputable def laidL : List (String × DataW Unit) := [("unicode/utf8.acceptRanges", Rows.laid_unicode_utf8_acceptRanges), ("colonnade/kind.says", Rows.laid_colonnade_kind_says), ("unicode/utf8.first", Rows.laid_unicode_utf8_first)]

theorem laid_glob {W : World} (h : laidMetH Tryz.prog laidL W) : ∃ g : Gh, Rel g St.empty W ∧ GlobOk gOf g W ∧ g.base = W.heap.size := by
  have h : laidMet Tryz.prog laidL W := h
  let g : Gh := { base := W.heap.size, use := fun _ => False, blk := fun _ => 0, fix := fun b _ => b < W.heap.size, tuse := fun _ => False, tok := fun _ => ⟨0, 0, 0, 0, 0⟩ }
  have key : ∀ {n : String} {d : DataW Unit} {i : Nat} {t : TypeId}, (n, d) ∈ laidL → Tryz.prog.globalNamed n = some i → (Tryz.prog.globals[i]?).map (·.type) = some t → flatB Tryz.prog t d = true → cellsD d = (flatV d).map .val → Rep g W (.rptr (cellsD d) 0) (.pointer (some ⟨i, 0, none⟩)) := by
    intro n d i t hm hg ht hb hc
    have hrd := reads_flat (Lib.laidMet.reads h hm) hg ht hb
    simp only [Rep]
    refine ⟨i, 0, flatV d, rfl, by rw [hc]; exact repAll_vals _, fun j u hj => ?_⟩
    have := hrd j u hj
    rw [Nat.zero_add]
    refine ⟨this, ?_⟩
    show i < W.heap.size
    unfold World.cell? at this
    cases hk : W.heap[i]? with
    | none => rw [hk] at this; cases this
    | some o => exact (Array.getElem?_eq_some_iff.1 hk).1
  refine ⟨g, ?_, ?_, rfl⟩
  · exact ⟨Nat.le_refl _, (fun i o h => by cases h), fun i h => h.elim, fun i j h => h.elim, fun i h => h.elim, (fun t n h => by cases h), fun t h => h.elim, fun t u h => h.elim, fun i t h => h.elim, fun b j h => h⟩
  · intro i a hi
    match i, hi with
    | 0, hi => cases hi; exact key (n := "colonnade/kind.says") (t := 109) (by simp [laidL]) (by kernel_rfl) (by kernel_rfl) (by kernel_rfl) (by kernel_rfl)
    | 1, hi => cases hi; exact key (n := "unicode/utf8.first") (t := 196) (by simp [laidL]) (by kernel_rfl) (by kernel_rfl) (by kernel_rfl) (by kernel_rfl)
    | 2, hi => cases hi; exact key (n := "unicode/utf8.acceptRanges") (t := 199) (by simp [laidL]) (by kernel_rfl) (by kernel_rfl) (by kernel_rfl) (by kernel_rfl)
    | _ + 3, hi => cases hi

/-- A call that bears no number, in whatever world. -/
theorem closed_calls {f : FuncId} {v : Value} (hc : ClosedOk Tryz.prog gOf f [] (.val v)) {W : World} (h : laidMetH Tryz.prog laidL W) : Calls Tryz.prog f #[] W fun e W' => e = .returned v ∧ Below W.heap.size W W' := by
  obtain ⟨g, rel, glob, hb⟩ := laid_glob h
  refine (callsIn_wide.1 (hc g W St.empty [] rel glob (by simp [RepAll]))).mono ?_
  intro e W' he
  cases e with
  | returned u =>
    obtain ⟨g', ext, _, hr⟩ := he
    simp only [Rep] at hr
    subst hr
    exact ⟨rfl, hb ▸ ext.below⟩
  | panicked c => exact he.elim
  | outgrown => exact he.elim

/-- What the document fixes of a join holds. -/
theorem awake_calls {W : World} (h : laidMetH Tryz.prog laidL W) : Calls Tryz.prog 7 #[] W fun e W' => e = .returned (.bool true) ∧ Below W.heap.size W W' :=
  closed_calls (closed_of_eval ok24 t24) h

end Go.Proofs.YtkhpgcbjmopkfaaGreatDoor
