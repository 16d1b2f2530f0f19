import Derived.Test.YtcebdodogbpglaaRfC
import Derived.Test.YtcebdodogbpglaaRdQ
set_option linter.unusedVariables false
/-! THE REFERENCE's NEXT, AND WHAT A SCAN COMES TO. -/
namespace Go.Proofs.Ytcebdodogbpglaa.Rdr
open Put

structure NextR where
  p : Option Pair
  s : Int
  e : Int
  n : Nat
  l : Bool

def nextR (lm lb : Nat) (last sh : Bool) (b : List UInt8) : NextR :=
  if last = true then (if b = [] then ⟨none, 3, 0, 0, true⟩ else ⟨none, 4, 74, 0, true⟩)
  else if lookE b lm lb ≠ 0 then ⟨none, 4, lookE b lm lb, 0, false⟩
  else if judgeN b lm lb = 0 then (if sh = true then ⟨none, 4, 73, 0, false⟩ else ⟨none, 1, 0, 0, false⟩)
  else if b[3]? = some 48 then (if b.drop (judgeN b lm lb) = [] then ⟨none, 3, 0, judgeN b lm lb, true⟩ else ⟨none, 4, 74, judgeN b lm lb, true⟩)
  else ⟨some (seg b 24 (n4 b 4), seg b (fromV b) (n4 b 8)), 2, 0, judgeN b lm lb, false⟩

section
variable {lm lb : Nat} {b : List UInt8}
theorem judge_zero (hE : lookE b lm lb = 0) : judgeN b lm lb = 0 ↔ (lookN b lm lb = 0 ∨ b.length < lookN b lm lb) := by
  have hp := sizeV_pos b
  unfold judgeN lookN
  by_cases h16 : 16 ≤ b.length
  · by_cases hs : sizeV b ≤ b.length
    · rw [if_pos ⟨hE, h16, hs⟩, if_pos ⟨hE, h16⟩]; omega
    · rw [if_neg (by omega), if_pos ⟨hE, h16⟩]; omega
  · rw [if_neg (by omega), if_neg (by omega)]; simp
theorem judge_look (hE : lookE b lm lb = 0) (h : judgeN b lm lb ≠ 0) : judgeN b lm lb = lookN b lm lb ∧ judgeN b lm lb = sizeV b ∧ sizeV b ≤ b.length ∧ 16 ≤ b.length := by
  unfold judgeN at h
  by_cases hc : lookE b lm lb = 0 ∧ 16 ≤ b.length ∧ sizeV b ≤ b.length
  · unfold judgeN lookN
    rw [if_pos hc, if_pos ⟨hE, hc.2.1⟩]
    exact ⟨rfl, rfl, hc.2.2, hc.2.1⟩
  · rw [if_neg hc] at h; exact absurd rfl h

theorem next_scan (last sh : Bool) :
    ((scanF lm lb last b).q = [] → (nextR lm lb last sh b).p = none ∧ (nextR lm lb last sh b).s = standS (scanF lm lb last b).w (scanF lm lb last b).e sh ∧ (nextR lm lb last sh b).e = standE (scanF lm lb last b).w (scanF lm lb last b).e sh ∧
      (nextR lm lb last sh b).n ≤ b.length ∧ scanF lm lb (nextR lm lb last sh b).l (b.drop (nextR lm lb last sh b).n) = scanF lm lb last b ∧ ((nextR lm lb last sh b).l = false → (nextR lm lb last sh b).n = 0) ∧ ((nextR lm lb last sh b).l = true → (scanF lm lb last b).e = true)) ∧
    (∀ m q, (scanF lm lb last b).q = m :: q → last = false ∧ (nextR lm lb last sh b).p = some m ∧ (nextR lm lb last sh b).s = 2 ∧ (nextR lm lb last sh b).e = 0 ∧ (nextR lm lb last sh b).l = false ∧
      (nextR lm lb last sh b).n = 24 + padU m.1.length + padU m.2.length ∧ (nextR lm lb last sh b).n ≤ b.length ∧ scanF lm lb false (b.drop (nextR lm lb last sh b).n) = ⟨q, (scanF lm lb last b).t, (scanF lm lb last b).w, (scanF lm lb last b).e⟩) := by
  cases last with
  | true =>
    by_cases hb : b = []
    · subst hb
      have hn : nextR lm lb true sh [] = ⟨none, 3, 0, 0, true⟩ := by unfold nextR; rw [if_pos rfl, if_pos rfl]
      rw [scan_nil, hn]
      refine ⟨fun _ => ⟨rfl, rfl, rfl, Nat.zero_le _, by simp [scan_nil], by simp, by simp⟩, fun m q h => by cases h⟩
    · have hn : nextR lm lb true sh b = ⟨none, 4, 74, 0, true⟩ := by unfold nextR; rw [if_pos rfl, if_neg hb]
      rw [scan_tail hb, hn]
      refine ⟨fun _ => ⟨rfl, rfl, rfl, Nat.zero_le _, by simp [scan_tail hb], by simp, by simp⟩, fun m q h => by cases h⟩
  | false =>
    by_cases hE : lookE b lm lb = 0
    · by_cases hJ : judgeN b lm lb = 0
      · have hn : nextR lm lb false sh b = if sh = true then ⟨none, 4, 73, 0, false⟩ else ⟨none, 1, 0, 0, false⟩ := by
          unfold nextR; rw [if_neg (by simp), if_neg (by simp [hE]), if_pos hJ]
        have hS : scanF lm lb false b = ⟨[], b, 0, false⟩ := by
          by_cases hb : b = []
          · subst hb; exact scan_nil _
          · exact scan_wait hb hE ((judge_zero hE).1 hJ)
        rw [hS, hn]
        refine ⟨fun _ => ?_, fun m q h => by cases h⟩
        cases sh <;> exact ⟨rfl, rfl, rfl, Nat.zero_le _, by simpa using hS, by simp, by simp⟩
      · obtain ⟨j1, j2, j3, j4⟩ := judge_look hE hJ
        have hb : b ≠ [] := by rintro rfl; simp at j4
        have hN : ¬ (lookN b lm lb = 0 ∨ b.length < lookN b lm lb) := fun h => hJ ((judge_zero hE).2 h)
        by_cases h3 : b[3]? = some 48
        · have hn : nextR lm lb false sh b = if b.drop (judgeN b lm lb) = [] then ⟨none, 3, 0, judgeN b lm lb, true⟩ else ⟨none, 4, 74, judgeN b lm lb, true⟩ := by
            unfold nextR; rw [if_neg (by simp), if_neg (by simp [hE]), if_neg hJ, if_pos h3]
          have hS := scan_end hb hE hN h3
          rw [← j1] at hS
          rw [hS, hn]
          by_cases hd : b.drop (judgeN b lm lb) = []
          · rw [if_pos hd, hd, scan_nil]
            exact ⟨fun _ => ⟨rfl, rfl, rfl, by rw [j2]; exact j3, rfl, by simp, by simp⟩, fun m q h => by cases h⟩
          · rw [if_neg hd, scan_tail hd]
            exact ⟨fun _ => ⟨rfl, rfl, rfl, by rw [j2]; exact j3, rfl, by simp, by simp⟩, fun m q h => by cases h⟩
        · have hn : nextR lm lb false sh b = ⟨some (seg b 24 (n4 b 4), seg b (fromV b) (n4 b 8)), 2, 0, judgeN b lm lb, false⟩ := by
            unfold nextR; rw [if_neg (by simp), if_neg (by simp [hE]), if_neg hJ, if_neg h3]
          have hS := scan_one hb hE hN h3
          rw [← j1] at hS
          rw [hS, hn]
          refine ⟨fun h => by simp [pre] at h, fun m q h => ?_⟩
          have hb1 := size_bounds b
          have e1 : (seg b 24 (n4 b 4)).length = n4 b 4 := by unfold seg; rw [List.length_take, List.length_drop]; omega
          have e2 : (seg b (fromV b) (n4 b 8)).length = n4 b 8 := by unfold seg; rw [List.length_take, List.length_drop]; omega
          have h' : (seg b 24 (n4 b 4), seg b (fromV b) (n4 b 8)) :: (scanF lm lb false (b.drop (judgeN b lm lb))).q = m :: q := h
          obtain ⟨rfl, rfl⟩ := List.cons.inj h'
          refine ⟨rfl, rfl, rfl, rfl, rfl, ?_, by rw [j2]; exact j3, rfl⟩
          show judgeN b lm lb = _
          rw [e1, e2, j2]; rfl
    · have hb : b ≠ [] := by
        rintro rfl
        exact hE (by unfold lookE; rw [if_neg (by simp [markB_iff]), if_pos (by simp)])
      have hn : nextR lm lb false sh b = ⟨none, 4, lookE b lm lb, 0, false⟩ := by unfold nextR; rw [if_neg (by simp), if_pos hE]
      have hS := scan_bad hb hE
      rw [hS, hn]
      exact ⟨fun _ => ⟨rfl, by simp [standS, hE], by simp [standE, hE], Nat.zero_le _, by simpa using hS, by simp, by simp⟩, fun m q h => by cases h⟩
end
end Go.Proofs.Ytcebdodogbpglaa.Rdr
