import Derived.Test.YtcebdodogbpglaaPutF
set_option linter.unusedVariables false
set_option maxRecDepth 100000
/-! THE LAW'S OWN FUNCTIONS: kept; the book. -/
namespace Go.Proofs.Ytcebdodogbpglaa.Put
open Go.ChangeShapes Go.WideShapes Go.ChangeAt Go.RowKit Mem Ink

theorem Rd.front {L : Nat → Nat} {c : Nat} {w : World} {p : Option Addr} {n m k cap : Nat} {xs ys : List Value} (h : Rd L c w 1 (.slice p n cap) n (xs ++ ys)) (hx : xs.length = m) (hk : m ≤ k) (hk2 : k ≤ maxLen) : Rd L c w 1 (.slice p m k) m xs := by
  obtain ⟨h1, q', cap', hv, hn, hmx, hc⟩ := h
  cases hv
  refine ⟨by omega, _, _, rfl, hk, hk2, fun j u hj => hc j u ?_⟩
  have : j < xs.length := (List.getElem?_eq_some_iff.1 hj).1
  rw [List.getElem?_append_left this]; exact hj

theorem kept_calls {L : Nat → Nat} {c c1 : Nat} {w : World} {g n : Nat} {v : Value} {bs : List UInt8} (hn : n ≤ 140737488355328) (ho : Rd L c w 1 (.slice (some ⟨g, 0, none⟩) (n + 3) (n + 3)) (n + 3) ((bs ++ marks).map byt)) (hr : Rd L c1 w 1 v n (bs.map byt)) :
    Calls Try.prog 13 #[.slice (some ⟨g, 0, none⟩) (n + 3) (n + 3), v] w fun e w' => e = .returned (.bool true) ∧ ∃ k, w' = w.drewN k := by
  have hbl : bs.length = n := by simpa using hr.1
  subst hbl
  obtain ⟨p, cap, rfl, hcn, hm⟩ := hr.shape
  have r1 : Rd L c w 1 (.slice (some ⟨g, 0, none⟩) bs.length (bs.length + 3)) bs.length (bs.map byt) := Rd.front (ys := marks.map byt) (by simpa using ho) (by simp) (by omega) (by unfold maxLen; omega)
  obtain ⟨_, _, _, hv, _, _, hc⟩ := ho
  cases hv
  have hat : ∀ j, j < 3 → w.cell? ⟨g, bs.length + j, none⟩ = some (.int .u8 171) := by
    intro j hj
    obtain ⟨b, off, e, _, h⟩ := hc (bs.length + j) (.int .u8 171) (by
      rw [List.map_append, List.getElem?_append_right (by simp), show bs.length + j - (bs.map byt).length = j from by simp]
      match j, hj with
      | 0, _ => rfl
      | 1, _ => rfl
      | 2, _ => rfl)
    simp at e; obtain ⟨rfl, rfl⟩ := e
    simpa using h
  have m0 := hat 0 (by omega)
  have m1 := hat 1 (by omega)
  have m2 := hat 2 (by omega)
  rw [Nat.add_zero] at m0
  have hS : sameB bs bs = true := by simp [sameB]
  have HS := Lib.hid hS
  clear hc hat hS
  go_enter Try.func13, Try.ntmps13
  go_wp2_with fail
  refine (same_calls r1 hr).mono ?_; rintro e w1 ⟨rfl, kq, rfl⟩
  rw [HS.out]
  have m0 : (w.drewN kq).cell? ⟨g, bs.length, none⟩ = some (.int .u8 171) := m0
  have m1 : (w.drewN kq).cell? ⟨g, bs.length + 1, none⟩ = some (.int .u8 171) := m1
  have m2 : (w.drewN kq).cell? ⟨g, bs.length + 2, none⟩ = some (.int .u8 171) := m2
  go_wp2_with fail
  go_ret
  exact ⟨rfl, kq, rfl⟩

end Go.Proofs.Ytcebdodogbpglaa.Put
