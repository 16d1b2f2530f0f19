import Derived.Test.YtcebdodogbpglaaApart
import Derived.Test.YtcebdodogbpglaaLate
set_option linter.unusedVariables false
set_option maxRecDepth 100000
/-! THE TURNS OF FRAMEPUTS. -/
namespace Go.Proofs.Ytcebdodogbpglaa.Put
open Go.ChangeShapes Go.WideShapes Go.ChangeAt Go.RowKit Mem Ink

theorem rclose_msg : headB 48 0 0 2166136261 = msgB 48 [] [] := by
  simp [msgB, sumV, zeros, padU]

/-- The walk's state behind t turns. -/
structure Turned (w0 : World) (mb kb g1 g2 : Nat) (x1 x2 vw : Value) (ms bd : List UInt8) (t : Nat) (L : Nat → Nat) (w : World) (E : List Ent) : Prop where
  step : Step (fun d => 1 ≤ d) (fun _ => 0) w0 L w
  cells : Cells L w mb 9 [x1, x2]
  book : BookAt L 20 w kb (E.map (·.v)) (E.map (·.wv)) [] []
  mine : Own L 1 w 5 1 (.slice (some ⟨g1, 0, none⟩) (ms.length + 3) (ms.length + 3)) (ms.length + 3) ((ms ++ marks).map byt)
  body : Own L 2 w 5 1 (.slice (some ⟨g2, 0, none⟩) (bd.length + 3) (bd.length + 3)) (bd.length + 3) ((bd ++ marks).map byt)
  want : Own L 10 w 5 1 vw (putB ms bd).length ((putB ms bd).map byt)
  src1 : Rd L 0 w 1 x1 ms.length (ms.map byt)
  src2 : Rd L 0 w 1 x2 bd.length (bd.map byt)
  len : E.length = 2 * t
  ents : ∀ i (h : i < E.length), Own L E[i].col w 5 1 E[i].v E[i].bs.length (E[i].bs.map byt) ∧ Rd L E[i].wcol w 1 E[i].wv E[i].bs.length (E[i].bs.map byt)
  cols : ∀ i (h : i < E.length), E[i].col = 40 + i ∧ (E[i].wcol = 10 ∨ (50 ≤ E[i].wcol ∧ E[i].wcol < 50 + t))
  small : ∀ i (h : i < E.length), E[i].bs.length ≤ 1000000000000

theorem Turned.move {w0 w w' : World} {mb kb g1 g2 : Nat} {x1 x2 vw : Value} {ms bd : List UInt8} {t : Nat} {L L' : Nat → Nat} {E : List Ent} {C : Nat → Prop} (h : Turned w0 mb kb g1 g2 x1 x2 vw ms bd t L w E)
    (st : Step C L w L' w') (hC : ∀ d, C d → (40 + 2 * t ≤ d ∧ d < 50) ∨ 50 + t ≤ d) (ht : t ≤ 2) : Turned w0 mb kb g1 g2 x1 x2 vw ms bd t L' w' E := by
  have hn : ∀ d, ¬ ((40 + 2 * t ≤ d ∧ d < 50) ∨ 50 + t ≤ d) → ¬ C d := fun d hd hc => hd (hC d hc)
  refine ⟨h.step.trans (st.mono fun d hd => by have := hC d hd; show 1 ≤ d; omega), h.cells.step st (hn _ (by omega)), h.book.step st (fun d hd hB => by have := hC d hd; unfold Bc at hB; omega), h.mine.step st (hn _ (by omega)), h.body.step st (hn _ (by omega)), h.want.step st (hn _ (by omega)), h.src1.step st (hn _ (by omega)), h.src2.step st (hn _ (by omega)), h.len, fun i hi => ?_, h.cols, h.small⟩
  have hc := h.cols i hi
  have hl := h.len
  exact ⟨(h.ents i hi).1.step st (hn _ (by omega)), (h.ents i hi).2.step st (hn _ (by omega))⟩

theorem Turned.drewN {w0 w : World} {mb kb g1 g2 : Nat} {x1 x2 vw : Value} {ms bd : List UInt8} {t : Nat} {L : Nat → Nat} {E : List Ent} (h : Turned w0 mb kb g1 g2 x1 x2 vw ms bd t L w E) (k : Nat) (ht : t ≤ 2) : Turned w0 mb kb g1 g2 x1 x2 vw ms bd t L (w.drewN k) E :=
  h.move (C := fun _ => False) ((Step.refl _ _ _).drewN k) (fun _ x => x.elim) ht

/-- What came out of one turn. -/
structure Out (L : Nat → Nat) (w : World) (t : Nat) (e1 e2 : Ent) : Prop where
  o1 : Own L e1.col w 5 1 e1.v e1.bs.length (e1.bs.map byt) ∧ Rd L e1.wcol w 1 e1.wv e1.bs.length (e1.bs.map byt)
  o2 : Own L e2.col w 5 1 e2.v e2.bs.length (e2.bs.map byt) ∧ Rd L e2.wcol w 1 e2.wv e2.bs.length (e2.bs.map byt)
  cols : e1.col = 40 + 2 * t ∧ e2.col = 41 + 2 * t ∧ e1.wcol = 10 ∧ e2.wcol = 50 + t
  small : e1.bs.length ≤ 1000000000000 ∧ e2.bs.length ≤ 1000000000000

/-- Behind a turn: what came out is in the book. -/
theorem Turned.turn {w0 w w2 : World} {mb kb g1 g2 : Nat} {x1 x2 vw : Value} {ms bd : List UInt8} {t : Nat} {L L2 : Nat → Nat} {E : List Ent} {e1 e2 : Ent} {C : Nat → Prop} (h : Turned w0 mb kb g1 g2 x1 x2 vw ms bd t L w E)
    (st : Step C L w L2 w2) (hC : ∀ d, C d → Bc 20 d ∨ d = 50 + t) (hB : BookAt L2 20 w2 kb ((E.map (·.v) ++ [e1.v]) ++ [e2.v]) ((E.map (·.wv) ++ [e1.wv]) ++ [e2.wv]) [] []) (ho : Out L2 w2 t e1 e2) (ht : t ≤ 1) :
    Turned w0 mb kb g1 g2 x1 x2 vw ms bd (t + 1) L2 w2 (E ++ [e1, e2]) := by
  have hn : ∀ d, ¬ ((20 ≤ d ∧ d < 25) ∨ d = 50 + t) → ¬ C d := fun d hd hc => hd (by have := hC d hc; unfold Bc at this; omega)
  have hl := h.len
  refine ⟨h.step.trans (st.mono fun d hd => by have := hC d hd; unfold Bc at this; show 1 ≤ d; omega), h.cells.step st (hn _ (by omega)), by simpa using hB, h.mine.step st (hn _ (by omega)), h.body.step st (hn _ (by omega)), h.want.step st (hn _ (by omega)), h.src1.step st (hn _ (by omega)), h.src2.step st (hn _ (by omega)), by simp; omega, ?_, ?_, ?_⟩
  · intro i hi
    by_cases e : i < E.length
    · have hc := h.cols i e
      simp only [List.getElem_append_left e]
      exact ⟨(h.ents i e).1.step st (hn _ (by omega)), (h.ents i e).2.step st (hn _ (by omega))⟩
    · have : i = E.length ∨ i = E.length + 1 := by simp at hi; omega
      rcases this with rfl | rfl
      · simpa using ho.o1
      · simpa [List.getElem_append] using ho.o2
  · intro i hi
    have hcc := ho.cols
    by_cases e : i < E.length
    · have hc := h.cols i e
      simp only [List.getElem_append_left e]
      omega
    · have : i = E.length ∨ i = E.length + 1 := by simp at hi; omega
      rcases this with rfl | rfl
      · simp; omega
      · simp; omega
  · intro i hi
    have hss := ho.small
    by_cases e : i < E.length
    · simp only [List.getElem_append_left e]; exact h.small i e
    · have : i = E.length ∨ i = E.length + 1 := by simp at hi; omega
      rcases this with rfl | rfl
      · simpa using hss.1
      · simpa [List.getElem_append] using hss.2

theorem putB_small (ms bd : List UInt8) : (putB ms bd).length ≤ 1000000000000 := by
  unfold putB
  split
  · rename_i h
    unfold putE at h
    have h1 := padU_ge ms.length
    have h2 := padU_ge bd.length
    have : ms.length ≤ 65536 ∧ bd.length ≤ 4194304 := by
      split at h
      · cases h
      · split at h
        · cases h
        · omega
    unfold msgB
    simp [headB_length, zeros]
    omega
  · simp

/-- The two lists that the walk owns, and the message of their heads. -/
structure Bumps (w0 : World) (mb ob g1 g2 n k : Nat) (x1 x2 : Value) (X Y : List UInt8) (L : Nat → Nat) (w : World) : Prop where
  step : Step (fun d => 1 ≤ d) (fun _ => 0) w0 L w
  cells : Cells L w mb 9 [x1, x2]
  own : Cells L w ob 9 [.slice (some ⟨g1, 0, none⟩) n (n + 3), .slice (some ⟨g2, 0, none⟩) k (k + 3)]
  mine : Own L 1 w 5 1 (.slice (some ⟨g1, 0, none⟩) (n + 3) (n + 3)) (n + 3) ((X ++ marks).map byt)
  body : Own L 2 w 5 1 (.slice (some ⟨g2, 0, none⟩) (k + 3) (k + 3)) (k + 3) ((Y ++ marks).map byt)
  len1 : X.length = n
  len2 : Y.length = k

section
variable {w0 w w' : World} {mb ob g1 g2 n k : Nat} {x1 x2 : Value} {X Y : List UInt8} {L L' : Nat → Nat}
theorem Bumps.move {C : Nat → Prop} (h : Bumps w0 mb ob g1 g2 n k x1 x2 X Y L w) (st : Step C L w L' w') (hC : ∀ d, C d → 60 ≤ d) : Bumps w0 mb ob g1 g2 n k x1 x2 X Y L' w' := by
  have hn : ∀ d, d < 60 → ¬ C d := fun d hd hc => by have := hC d hc; omega
  exact ⟨h.step.trans (st.mono fun d hd => by have := hC d hd; show 1 ≤ d; omega), h.cells.step st (hn _ (by omega)), h.own.step st (hn _ (by omega)), h.mine.step st (hn _ (by omega)), h.body.step st (hn _ (by omega)), h.len1, h.len2⟩
theorem Bumps.read1 (h : Bumps w0 mb ob g1 g2 n k x1 x2 X Y L w) (hn : n + 3 ≤ maxLen) : Rd L 1 w 1 (.slice (some ⟨g1, 0, none⟩) n (n + 3)) n (X.map byt) :=
  Rd.front (ys := marks.map byt) (by simpa using h.mine.rd) (by simpa using h.len1) (by omega) hn
theorem Bumps.read2 (h : Bumps w0 mb ob g1 g2 n k x1 x2 X Y L w) (hn : k + 3 ≤ maxLen) : Rd L 2 w 1 (.slice (some ⟨g2, 0, none⟩) k (k + 3)) k (Y.map byt) :=
  Rd.front (ys := marks.map byt) (by simpa using h.body.rd) (by simpa using h.len2) (by omega) hn
theorem byt_succ (b : UInt8) : byt (b + 1) = .int .u8 (((b.toNat : Int) + 1) % 256) := by
  unfold byt; rw [UInt8.toNat_add]; congr 1
theorem Bumps.put1 (h : Bumps w0 mb ob g1 g2 n k x1 x2 X Y L w) {j : Nat} (hj : j < n) : ∃ u : Nat, u < 256 ∧ w.cell? ⟨g1, j, none⟩ = some (.int .u8 (u : Int)) ∧ w.frozen? ⟨g1, j, none⟩ = false ∧
    ∃ X', Bumps w0 mb ob g1 g2 n k x1 x2 X' Y L (w.setCell ⟨g1, j, none⟩ (.int .u8 (((u : Int) + 1) % 256))) := by
  have hl := h.len1
  have hx : j < ((X ++ marks).map byt).length := by simp; omega
  obtain ⟨g, cp, hv, hL, hc, hf, ho, st⟩ := Own.set h.mine hx (byt (X[j]'(by omega) + 1))
  cases hv
  refine ⟨(X[j]'(by omega)).toNat, UInt8.toNat_lt _, ?_, hf, X.set j (X[j]'(by omega) + 1), ?_⟩
  · rw [hc]; simp only [List.getElem_map, List.getElem_append_left (show j < X.length by omega)]; rfl
  · rw [byt_succ] at ho st
    refine ⟨h.step.trans (st.mono fun d hd => by rw [show d = 1 from hd]; decide), h.cells.step st (by decide), h.own.step st (by decide), ?_, h.body.step st (by decide), by simpa using hl, h.len2⟩
    rw [← byt_succ, ← List.map_set, List.set_append_left _ _ (by omega)] at ho
    exact ho
theorem Bumps.put2 (h : Bumps w0 mb ob g1 g2 n k x1 x2 X Y L w) {j : Nat} (hj : j < k) : ∃ u : Nat, u < 256 ∧ w.cell? ⟨g2, j, none⟩ = some (.int .u8 (u : Int)) ∧ w.frozen? ⟨g2, j, none⟩ = false ∧
    ∃ Y', Bumps w0 mb ob g1 g2 n k x1 x2 X Y' L (w.setCell ⟨g2, j, none⟩ (.int .u8 (((u : Int) + 1) % 256))) := by
  have hl := h.len2
  have hx : j < ((Y ++ marks).map byt).length := by simp; omega
  obtain ⟨g, cp, hv, hL, hc, hf, ho, st⟩ := Own.set h.body hx (byt (Y[j]'(by omega) + 1))
  cases hv
  refine ⟨(Y[j]'(by omega)).toNat, UInt8.toNat_lt _, ?_, hf, Y.set j (Y[j]'(by omega) + 1), ?_⟩
  · rw [hc]; simp only [List.getElem_map, List.getElem_append_left (show j < Y.length by omega)]; rfl
  · rw [byt_succ] at ho st
    refine ⟨h.step.trans (st.mono fun d hd => by rw [show d = 2 from hd]; decide), h.cells.step st (by decide), h.own.step st (by decide), h.mine.step st (by decide), ?_, h.len1, by simpa using hl⟩
    rw [← byt_succ, ← List.map_set, List.set_append_left _ _ (by omega)] at ho
    exact ho
end

end Go.Proofs.Ytcebdodogbpglaa.Put
