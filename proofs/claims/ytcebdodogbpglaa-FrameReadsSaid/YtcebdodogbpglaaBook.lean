import Derived.Test.YtcebdodogbpglaaPutG
import Derived.Deep.Cut
set_option linter.unusedVariables false
set_option maxRecDepth 100000
/-! THE BOOK. -/
namespace Go.Proofs.Ytcebdodogbpglaa.Mem
open Go.ChangeShapes Go.WideShapes Go.ChangeAt Go.RowKit

theorem Step.store {L : Nat → Nat} {w : World} {kb c j : Nat} {C : Array Value} {T : TypeId} {v : Value} (hk : w.heap[kb]? = some (.cells C T (0, 0))) (hL : L kb = c) :
    Step (· = c) L w L (w.setCell ⟨kb, j, none⟩ v) ∧ (w.setCell ⟨kb, j, none⟩ v).heap[kb]? = some (.cells (C.setIfInBounds j v) T (0, 0)) := by
  refine ⟨⟨rfl, rfl, rfl, by simp [World.setCell], fun k hk' hc => ?_, fun k hk' => rfl⟩, heap_setCell_same hk v⟩
  exact Below.heap_setCell _ _ _ _ (fun e => hc (by rw [e]; exact hL))

end Go.Proofs.Ytcebdodogbpglaa.Mem

namespace Go.Proofs.Ytcebdodogbpglaa.Put
open Go.ChangeShapes Go.WideShapes Go.ChangeAt Go.RowKit Mem Ink

theorem infoBytes : (Try.prog.info? 23).map (fun i => (i.zero, i.size, i.bytes)) = some (some (.slice none 0 0), 1, 24) := by kernel_rfl
theorem infoInt : (Try.prog.info? 3).map (fun i => (i.zero, i.size, i.bytes)) = some (some (.int .i64 0), 1, 8) := by kernel_rfl

/-- The book: its object, its four lists. -/
def BookAt (L : Nat → Nat) (c : Nat) (w : World) (kb : Nat) (A W G O : List Value) : Prop :=
  ∃ va vw vg vo, w.heap[kb]? = some (.cells #[va, vw, vg, vo] 34 (0, 0)) ∧ L kb = c ∧ Own L (c + 1) w 23 1 va A.length A ∧ Own L (c + 2) w 23 1 vw W.length W ∧ Own L (c + 3) w 23 1 vg G.length G ∧ Own L (c + 4) w 3 1 vo O.length O

def Bc (c d : Nat) : Prop := c ≤ d ∧ d < c + 5

theorem BookAt.step {L L' : Nat → Nat} {w w' : World} {C : Nat → Prop} {c kb : Nat} {A W G O : List Value} (h : BookAt L c w kb A W G O) (st : Step C L w L' w') (hC : ∀ d, C d → ¬ Bc c d) : BookAt L' c w' kb A W G O := by
  obtain ⟨va, vw, vg, vo, h0, h1, h2, h3, h4, h5⟩ := h
  have hn : ∀ d, Bc c d → ¬ C d := fun d hb hc => hC d hc hb
  exact ⟨va, vw, vg, vo, st.heap h0 (by rw [h1]; exact hn _ (by unfold Bc; omega)), (st.col kb (lt_of_heap h0)).trans h1, h2.step st (hn _ (by unfold Bc; omega)), h3.step st (hn _ (by unfold Bc; omega)), h4.step st (hn _ (by unfold Bc; omega)), h5.step st (hn _ (by unfold Bc; omega))⟩

theorem add_calls {L : Nat → Nat} {c : Nat} {w : World} {kb : Nat} {A W G O : List Value} (h : BookAt L c w kb A W G O) (hA : A.length ≤ 1000000000000) (hW : W.length ≤ 1000000000000) (p q : Option Addr) (n cap k cap2 : Nat) :
    Calls Try.prog 16 #[.pointer (some ⟨kb, 0, none⟩), .slice p n cap, .slice q k cap2] w fun e w' => e = .returned (.tuple #[]) ∧ ∃ L', Step (Bc c) L w L' w' ∧ BookAt L' c w' kb (A ++ [.slice p n cap]) (W ++ [.slice q k cap2]) G O := by
  obtain ⟨va, vw, vg, vo, h0, h1, h2, h3, h4, h5⟩ := h
  obtain ⟨pa, ca, hva, _⟩ := ownsRow_shape h2.1
  subst hva
  obtain ⟨pw, cw, hvw, _⟩ := ownsRow_shape h3.1
  subst hvw
  have c0 : w.cell? ⟨kb, 0, none⟩ = some (.slice pa A.length ca) := by rw [cell_of_heap h0]; rfl
  have c1 : w.cell? ⟨kb, 1, none⟩ = some (.slice pw W.length cw) := by rw [cell_of_heap h0]; rfl
  go_enter Try.func16, Try.ntmps16
  go_wp2_with (at_builtin; refine wpList_append rfl (.tmp 10) (.tmp 12) 31 31 rfl 23 Try.underlying31 infoBytes rfl (by decide) _ A.length A rfl (h2.1.alloc _) _ 1 [.slice p n cap] rfl (Src.fresh w Try.underlying31 1 1 [.slice p n cap] rfl (by simp [Value.oneCell'])) (by unfold maxLen; omega) (by omega) ?_)
  intro v2 w2 hown2 hg2 hblk _
  obtain ⟨L2, S2, o2, s2⟩ := Own.grown (C := Bc c) (Step.refl _ L w) (by unfold Bc; omega) h2 (below_alloc w _) hown2 hg2 (by simpa using hblk)
  have g0 := s2.heap h0 (by rw [h1]; omega)
  have g1 : L2 kb = c := (s2.col kb (lt_of_heap h0)).trans h1
  have g3 := h3.step s2 (by omega)
  have g4 := h4.step s2 (by omega)
  have g5 := h5.step s2 (by omega)
  obtain ⟨pa2, ca2, hva, _⟩ := ownsRow_shape o2.1
  subst hva
  obtain ⟨s3, f0⟩ := Step.store (j := 0) (v := .slice pa2 (A.length + 1) ca2) g0 g1
  have d0 : w2.cell? ⟨kb, 0, none⟩ = some (.slice pa A.length ca) := by rw [cell_of_heap g0]; rfl
  have d1 : w2.frozen? ⟨kb, 0, none⟩ = false := frozen_of_heap g0
  have e2 := o2.step s3 (by omega)
  have e3 := g3.step s3 (by omega)
  have e4 := g4.step s3 (by omega)
  have e5 := g5.step s3 (by omega)
  have S3 := S2.trans (s3.mono (D := Bc c) (by rintro _ rfl; unfold Bc; omega))
  have c2 : (w2.setCell ⟨kb, 0, none⟩ (.slice pa2 (A.length + 1) ca2)).cell? ⟨kb, 1, none⟩ = some (.slice pw W.length cw) := by rw [cell_of_heap f0]; rfl
  clear hown2 hg2 hblk h0 h1 h2 h3 h4 h5 c0 c1 s2 S2 g0 g3 g4 g5 o2 s3
  go_upto_region 1 with fail
  generalize w2.setCell ⟨kb, 0, none⟩ (.slice pa2 (A.length + 1) ca2) = w3 at *
  go_wp2_with (at_builtin; refine wpList_append rfl (.tmp 20) (.tmp 22) 31 31 rfl 23 Try.underlying31 infoBytes rfl (by decide) _ W.length W rfl (e3.1.alloc _) _ 1 [.slice q k cap2] rfl (Src.fresh _ Try.underlying31 1 1 [.slice q k cap2] rfl (by simp [Value.oneCell'])) (by unfold maxLen; omega) (by omega) ?_)
  intro v4 w4 hown4 hg4 hblk4 _
  obtain ⟨L4, S4, o4, s4⟩ := Own.grown S3 (by unfold Bc; omega) e3 (below_alloc w3 _) hown4 hg4 (by simpa using hblk4)
  have g0 := s4.heap f0 (by rw [g1]; omega)
  have g1' : L4 kb = c := (s4.col kb (lt_of_heap f0)).trans g1
  have g2 := e2.step s4 (by omega)
  have g4 := e4.step s4 (by omega)
  have g5 := e5.step s4 (by omega)
  obtain ⟨pw2, cw2, hvw, _⟩ := ownsRow_shape o4.1
  subst hvw
  obtain ⟨s5, f1⟩ := Step.store (j := 1) (v := .slice pw2 (W.length + 1) cw2) g0 g1'
  have d0 : w4.cell? ⟨kb, 1, none⟩ = some (.slice pw W.length cw) := by rw [cell_of_heap g0]; rfl
  have d1 : w4.frozen? ⟨kb, 1, none⟩ = false := frozen_of_heap g0
  have q2 := g2.step s5 (by omega)
  have q3 := o4.step s5 (by omega)
  have q4 := g4.step s5 (by omega)
  have q5 := g5.step s5 (by omega)
  have S5 := S4.trans (s5.mono (D := Bc c) (by rintro _ rfl; unfold Bc; omega))
  clear hown4 hg4 hblk4 c2 f0 e2 e3 e4 e5 s4 S4 g0 g2 g4 g5 o4 s5 S3
  go_wp2_with fail
  refine bodyPost_end (v := .tuple #[]) (by simp [results, Try.results16, go_sem]) rfl ⟨rfl, L4, S5, _, _, _, _, f1, g1', ?_, ?_, q4, q5⟩
  · simpa using q2
  · simpa using q3

end Go.Proofs.Ytcebdodogbpglaa.Put
