import Derived.Test.YtcebdodogbpglaaRdE
set_option linter.unusedVariables false
/-! WHAT COMES BEHIND CHANGES NOTHING AHEAD. -/
namespace Go.Proofs.Ytcebdodogbpglaa.Rdr
open Put Mem

section
variable {x y : List UInt8} {lm lb : Nat}
theorem seg_append {a m : Nat} (h : a + m ≤ x.length) : seg (x ++ y) a m = seg x a m := by
  unfold seg
  rw [List.drop_append_of_le_length (by omega), List.take_append_of_le_length (by simp; omega)]
theorem n4_append {a : Nat} (h : a + 4 ≤ x.length) : n4 (x ++ y) a = n4 x a := by
  have := seg_append (y := y) h; unfold seg at this; unfold n4; rw [this]
theorem markB_append (h : markB x = false) : markB (x ++ y) = false := by
  cases h2 : markB (x ++ y) with
  | false => rfl
  | true =>
    have : markB x = true := markB_iff.2 fun i hi h4 => by
      have := markB_iff.1 h2 i (by simp; omega) h4
      rwa [List.getElem_append_left hi] at this
    rw [h] at this; cases this
theorem markB_append_ok (h : markB x = true) (hl : 4 ≤ x.length) : markB (x ++ y) = true := markB_iff.2 fun i hi h4 => by
  rw [List.getElem_append_left (by omega)]; exact markB_iff.1 h i (by omega) h4
theorem zerosB_append {f t : Nat} (h : zerosB x f t = false) : zerosB (x ++ y) f t = false := by
  cases h2 : zerosB (x ++ y) f t with
  | false => rfl
  | true =>
    have : zerosB x f t = true := zerosB_iff.2 fun i hi h1 h3 => by
      have := zerosB_iff.1 h2 i (by simp; omega) h1 h3
      rwa [List.getElem_append_left hi] at this
    rw [h] at this; cases this
theorem zerosB_append_ok {f t : Nat} (h : zerosB x f t = true) (hl : t ≤ x.length) : zerosB (x ++ y) f t = true := zerosB_iff.2 fun i hi h1 h2 => by
  rw [List.getElem_append_left (by omega)]; exact zerosB_iff.1 h i (by omega) h1 h2
theorem fromV_append (h : 16 ≤ x.length) : fromV (x ++ y) = fromV x := by unfold fromV; rw [n4_append (by omega)]
theorem sizeV_append (h : 16 ≤ x.length) : sizeV (x ++ y) = sizeV x := by unfold sizeV; rw [fromV_append h, n4_append (by omega)]
theorem third_append (h : 16 ≤ x.length) : (x ++ y)[3]? = x[3]? := List.getElem?_append_left (by omega)
theorem size_bounds (b : List UInt8) : 24 + n4 b 4 ≤ fromV b ∧ fromV b + n4 b 8 ≤ sizeV b := by
  have h1 := padU_ge (n4 b 4); have h2 := padU_ge (n4 b 8); unfold sizeV fromV; omega

/-- The checks behind the first sixteen bytes. -/
def restE (b : List UInt8) (lm lb : Nat) : Int :=
  if n4 b 12 ≠ sumV firstV (b.take 12) then 72
  else if lm < n4 b 4 ∨ lb < n4 b 8 then 71
  else if b[3]? = some 48 ∧ (n4 b 4 ≠ 0 ∨ n4 b 8 ≠ 0) then 8
  else if zerosB b 20 24 = false ∨ zerosB b (24 + n4 b 4) (fromV b) = false ∨ zerosB b (fromV b + n4 b 8) (sizeV b) = false then 8
  else if sizeV b ≤ b.length ∧ n4 b 16 ≠ sumV (sumV firstV (seg b 24 (n4 b 4))) (seg b (fromV b) (n4 b 8)) then 72
  else 0
theorem lookE_rest (hM : markB x = true) (h : 16 ≤ x.length) : lookE x lm lb = restE x lm lb := by rw [lookE, if_neg (by rw [hM]; simp), if_neg (by omega)]; rfl

theorem rest_err (h16 : 16 ≤ x.length) (h : restE x lm lb ≠ 0) : restE (x ++ y) lm lb = restE x lm lb := by
  have t12 : (x ++ y).take 12 = x.take 12 := List.take_append_of_le_length (by omega)
  unfold restE at h ⊢
  rw [t12, n4_append (by omega), n4_append (a := 4) (by omega), n4_append (a := 8) (by omega), third_append h16, fromV_append h16, sizeV_append h16]
  by_cases c1 : n4 x 12 ≠ sumV firstV (x.take 12)
  · rw [if_pos c1, if_pos c1]
  · rw [if_neg c1, if_neg c1]
    rw [if_neg c1] at h
    by_cases c2 : lm < n4 x 4 ∨ lb < n4 x 8
    · rw [if_pos c2, if_pos c2]
    · rw [if_neg c2, if_neg c2]
      rw [if_neg c2] at h
      by_cases c3 : x[3]? = some 48 ∧ (n4 x 4 ≠ 0 ∨ n4 x 8 ≠ 0)
      · rw [if_pos c3, if_pos c3]
      · rw [if_neg c3, if_neg c3]
        rw [if_neg c3] at h
        by_cases c4 : zerosB x 20 24 = false ∨ zerosB x (24 + n4 x 4) (fromV x) = false ∨ zerosB x (fromV x + n4 x 8) (sizeV x) = false
        · rw [if_pos c4, if_pos (c4.imp zerosB_append (Or.imp zerosB_append zerosB_append))]
        · rw [if_neg c4] at h ⊢
          by_cases c5 : sizeV x ≤ x.length ∧ n4 x 16 ≠ sumV (sumV firstV (seg x 24 (n4 x 4))) (seg x (fromV x) (n4 x 8))
          · have hb := size_bounds x
            have h24 := sizeV_pos x
            rw [if_pos c5]
            simp only [not_or, Bool.not_eq_false] at c4
            rw [if_neg (by
              simp only [not_or, Bool.not_eq_false]
              exact ⟨zerosB_append_ok c4.1 (by omega), zerosB_append_ok c4.2.1 (by omega), zerosB_append_ok c4.2.2 (by omega)⟩),
              if_pos ⟨by simp; omega, by rw [n4_append (by omega), seg_append (by omega), seg_append (by omega)]; exact c5.2⟩]
          · rw [if_neg c5] at h
            exact absurd rfl h

theorem rest_ok (h16 : 16 ≤ x.length) (h : restE x lm lb = 0) (hs : sizeV x ≤ x.length) : restE (x ++ y) lm lb = 0 := by
  have t12 : (x ++ y).take 12 = x.take 12 := List.take_append_of_le_length (by omega)
  have hb := size_bounds x
  have h24 := sizeV_pos x
  unfold restE at h ⊢
  rw [t12, n4_append (by omega), n4_append (a := 4) (by omega), n4_append (a := 8) (by omega), third_append h16, fromV_append h16, sizeV_append h16, n4_append (a := 16) (by omega), seg_append (by omega), seg_append (by omega)]
  by_cases c1 : n4 x 12 ≠ sumV firstV (x.take 12)
  · rw [if_pos c1] at h; cases h
  · rw [if_neg c1] at h ⊢
    by_cases c2 : lm < n4 x 4 ∨ lb < n4 x 8
    · rw [if_pos c2] at h; cases h
    · rw [if_neg c2] at h ⊢
      by_cases c3 : x[3]? = some 48 ∧ (n4 x 4 ≠ 0 ∨ n4 x 8 ≠ 0)
      · rw [if_pos c3] at h; cases h
      · rw [if_neg c3] at h ⊢
        by_cases c4 : zerosB x 20 24 = false ∨ zerosB x (24 + n4 x 4) (fromV x) = false ∨ zerosB x (fromV x + n4 x 8) (sizeV x) = false
        · rw [if_pos c4] at h; cases h
        · rw [if_neg c4] at h
          simp only [not_or, Bool.not_eq_false] at c4
          rw [if_neg (by
              simp only [not_or, Bool.not_eq_false]
              exact ⟨zerosB_append_ok c4.1 (by omega), zerosB_append_ok c4.2.1 (by omega), zerosB_append_ok c4.2.2 (by omega)⟩)]
          by_cases c5 : sizeV x ≤ x.length ∧ n4 x 16 ≠ sumV (sumV firstV (seg x 24 (n4 x 4))) (seg x (fromV x) (n4 x 8))
          · rw [if_pos c5] at h; cases h
          · rw [if_neg (fun h => c5 ⟨hs, h.2⟩)]

theorem look_err (h : lookE x lm lb ≠ 0) : lookE (x ++ y) lm lb = lookE x lm lb := by
  cases hM : markB x with
  | false => rw [lookE, if_pos (markB_append hM), lookE, if_pos hM]
  | true =>
    have h16 : 16 ≤ x.length := by
      rcases Nat.lt_or_ge x.length 16 with h16 | h16
      · exact absurd (by rw [lookE, if_neg (by rw [hM]; simp), if_pos h16]) h
      · exact h16
    rw [lookE_rest hM h16] at h ⊢
    rw [lookE_rest (markB_append_ok hM (by omega)) (by simp; omega)]
    exact rest_err h16 h
theorem look_whole (hE : lookE x lm lb = 0) (hN : ¬ (lookN x lm lb = 0 ∨ x.length < lookN x lm lb)) : lookE (x ++ y) lm lb = 0 ∧ lookN (x ++ y) lm lb = lookN x lm lb ∧ 16 ≤ x.length ∧ lookN x lm lb = sizeV x := by
  have h16 : 16 ≤ x.length := by
    rcases Nat.lt_or_ge x.length 16 with h | h
    · exfalso; apply hN; left; rw [lookN, if_neg (by omega)]
    · exact h
  have hM : markB x = true := by
    cases h : markB x with
    | true => rfl
    | false => rw [lookE, if_pos h] at hE; cases hE
  have hs : lookN x lm lb = sizeV x := by rw [lookN, if_pos ⟨hE, h16⟩]
  have h1 : lookE (x ++ y) lm lb = 0 := by
    rw [lookE_rest hM h16] at hE
    rw [lookE_rest (markB_append_ok hM (by omega)) (by simp; omega)]
    exact rest_ok h16 hE (by omega)
  exact ⟨h1, by rw [hs, lookN, if_pos ⟨h1, by simp; omega⟩, sizeV_append h16], h16, hs⟩
end

/-- THE SCAN OF MORE. -/
theorem scan_append (lm lb : Nat) : ∀ (n : Nat) (x : List UInt8), x.length ≤ n → ∀ (en : Bool) (y : List UInt8),
    ((scanF lm lb en x).w ≠ 0 → scanF lm lb en (x ++ y) = scanF lm lb en x ∧ (scanF lm lb en x).t = []) ∧
    ((scanF lm lb en x).w = 0 → scanF lm lb en (x ++ y) = pre (scanF lm lb en x).q (scanF lm lb (scanF lm lb en x).e ((scanF lm lb en x).t ++ y))) := by
  intro n
  induction n with
  | zero =>
    intro x hx en y
    have : x = [] := List.eq_nil_of_length_eq_zero (by omega)
    subst this
    rw [scan_nil]
    exact ⟨fun h => absurd rfl h, fun _ => by simp [pre]⟩
  | succ n ih =>
    intro x hx en y
    by_cases h0 : x = []
    · subst h0
      rw [scan_nil]
      exact ⟨fun h => absurd rfl h, fun _ => by simp [pre]⟩
    · have h1 : x ++ y ≠ [] := by simp [h0]
      cases en with
      | true => rw [scan_tail h0, scan_tail h1]; exact ⟨fun _ => ⟨rfl, rfl⟩, fun h => by cases h⟩
      | false =>
        by_cases hE : lookE x lm lb = 0
        · by_cases hN : lookN x lm lb = 0 ∨ x.length < lookN x lm lb
          · rw [scan_wait h0 hE hN]
            exact ⟨fun h => absurd rfl h, fun _ => rfl⟩
          · obtain ⟨e1, e2, h16, hsz⟩ := look_whole (y := y) hE hN
            have hN2 : ¬ (lookN (x ++ y) lm lb = 0 ∨ (x ++ y).length < lookN (x ++ y) lm lb) := by rw [e2]; simp; omega
            have hdr : (x ++ y).drop (lookN (x ++ y) lm lb) = x.drop (lookN x lm lb) ++ y := by rw [e2]; exact List.drop_append_of_le_length (by omega)
            have hlen : (x.drop (lookN x lm lb)).length ≤ n := by simp; have := sizeV_pos x; omega
            by_cases h3 : x[3]? = some 48
            · rw [scan_end h0 hE hN h3, scan_end h1 e1 hN2 (by rw [third_append h16]; exact h3), hdr]
              exact ih _ hlen true y
            · rw [scan_one h0 hE hN h3, scan_one h1 e1 hN2 (by rw [third_append h16]; exact h3), hdr, n4_append (by omega), n4_append (by omega), fromV_append h16]
              have hb := size_bounds x
              rw [seg_append (by omega), seg_append (by omega)]
              obtain ⟨i1, i2⟩ := ih _ hlen false y
              refine ⟨fun h => ?_, fun h => ?_⟩
              · obtain ⟨j1, j2⟩ := i1 h
                exact ⟨by rw [j1], j2⟩
              · rw [i2 h, pre_pre]; rfl
        · have e1 := look_err (y := y) hE
          rw [scan_bad h0 hE, scan_bad h1 (by rw [e1]; exact hE), e1]
          exact ⟨fun _ => ⟨rfl, rfl⟩, fun h => absurd h hE⟩

end Go.Proofs.Ytcebdodogbpglaa.Rdr
