import Derived.Test.YtcebdodogbpglaaRdA
set_option linter.unusedVariables false
set_option maxRecDepth 100000
/-! ZEROS; THE MARK; THE REFERENCE'S NUMBER. -/
namespace Go.Proofs.Ytcebdodogbpglaa.Rdr
open Go.ChangeShapes Go.WideShapes Go.ChangeAt Go.RowKit Mem

def zerosB (b : List UInt8) (f t : Nat) : Bool := ((b.take t).drop f).all (· == 0)
theorem zerosB_iff {b : List UInt8} {f t : Nat} : zerosB b f t = true ↔ ∀ i (h : i < b.length), f ≤ i → i < t → b[i] = 0 := by
  unfold zerosB
  rw [List.all_eq_true]
  constructor
  · intro h i hi hf ht
    have : b[i] ∈ (b.take t).drop f := by
      rw [List.mem_iff_getElem]
      exact ⟨i - f, by simp; omega, by simp [show f + (i - f) = i from by omega]⟩
    simpa using h _ this
  · intro h x hx
    obtain ⟨j, hj, rfl⟩ := List.mem_iff_getElem.1 hx
    simp at hj
    have := h (f + j) (by omega) (by omega) (by omega)
    simp [this]

theorem empty_calls {L : Nat → Nat} {c : Nat} {w : World} {v : Value} {n : Nat} {bs : List UInt8} (hr : Rd L c w 1 v n (bs.map byt)) (f t : Nat) (hf : f ≤ 1000000000000) (ht : t ≤ 1000000000000) :
    Calls Try.prog 57 #[v, .int .i64 f, .int .i64 t] w fun e w' => e = .returned (.bool (zerosB bs f t)) ∧ w = w' := by
  have hbl : bs.length = n := by simpa using hr.1
  subst hbl
  obtain ⟨p, cap, rfl, hn, hm⟩ := hr.shape
  unfold maxLen at hm
  obtain ⟨M, hM⟩ : ∃ M : Nat, M = min t bs.length := ⟨_, rfl⟩
  have hMI : min (t : Int) (bs.length : Int) = (M : Int) := by omega
  have hMb : M ≤ bs.length ∧ M ≤ t := by omega
  have HM := Lib.hid hM
  clear hM
  go_enter Try.func57, Try.ntmps57
  go_wp2_with fail
  go_loop [7] (fun i => ∃ k : Nat, f ≤ k ∧ (k ≤ M ∨ k = f) ∧ i = .int .i64 k ∧ zerosB bs f k = true) (fun i => M - (intOf i).toNat)
  case atStart => exact ⟨f, by omega, .inr rfl, rfl, zerosB_iff.2 fun i h h1 h2 => by omega⟩
  case round =>
    obtain ⟨k, hk, hk2, rfl, hZ⟩ := hrel
    have HZ := Lib.hid hZ
    clear hZ
    by_cases hlt : k < M
    · obtain ⟨b, off, rfl, _, e0⟩ := hr.at (show k < bs.length by omega)
      obtain ⟨x, hx⟩ : ∃ x : UInt8, x = bs[k] := ⟨_, rfl⟩
      rw [← hx] at e0
      by_cases h0 : x = 0
      · have hZ2 : zerosB bs f (k + 1) = true := zerosB_iff.2 fun i h h1 h2 => by
          by_cases e : i = k
          · subst e; rw [← hx]; exact h0
          · exact zerosB_iff.1 HZ.out i h h1 (by omega)
        subst h0
        have HZ2 := Lib.hid hZ2
        clear hZ2 hx
        go_wp2_with fail
        go_round
        case rel => exact ⟨k + 1, by omega, by omega, by go_num, HZ2.out⟩
        case measure => simp [intOf]; omega
      · have hF : zerosB bs f t = false := by
          cases h : zerosB bs f t with
          | false => rfl
          | true => exact absurd (zerosB_iff.1 h k (by omega) hk (by omega)) (by rw [← hx]; exact h0)
        have HF := Lib.hid hF
        have hx0 : (x.toNat : Int) ≠ 0 := fun h => h0 (by
          apply UInt8.toNat_inj.1
          simpa using h)
        have hx1 : ((x.toNat : Int) == 0) = false := by simpa using hx0
        have hx2 : ((x.toNat : Int) != 0) = true := by simpa using hx0
        clear hF hx h0
        go_wp2_with fail
        all_goals go_ret
        all_goals exact ⟨by rw [HF.out]; rfl, rfl⟩
    · have hF : zerosB bs f t = true := zerosB_iff.2 fun i h h1 h2 => zerosB_iff.1 HZ.out i h h1 (by have := HM.out; omega)
      have HF := Lib.hid hF
      clear hF
      go_wp2_with fail
      all_goals go_ret
      all_goals exact ⟨by rw [HF.out]; rfl, rfl⟩

theorem zeros_calls {L : Nat → Nat} {c : Nat} {w : World} {v : Value} {n : Nat} {bs : List UInt8} (hr : Rd L c w 1 v n (bs.map byt)) (f t : Nat) (hf : f ≤ 1000000000000) (ht : t ≤ 1000000000000) :
    Calls Try.prog 61 #[v, .int .i64 f, .int .i64 t] w fun e w' => e = .returned (.bool (zerosB bs f t)) ∧ w = w' := by
  have hbl : bs.length = n := by simpa using hr.1
  subst hbl
  obtain ⟨p, cap, rfl, hn, hm⟩ := hr.shape
  unfold maxLen at hm
  go_enter Try.func61, Try.ntmps61
  go_wp2_with fail
  go_loop [7] (fun i => ∃ k : Nat, f ≤ k ∧ ((k ≤ t ∧ k ≤ bs.length) ∨ k = f) ∧ i = .int .i64 k ∧ zerosB bs f k = true) (fun i => bs.length - (intOf i).toNat)
  case atStart => exact ⟨f, by omega, .inr rfl, rfl, zerosB_iff.2 fun i h h1 h2 => by omega⟩
  case round =>
    obtain ⟨k, hk, hk2, rfl, hZ⟩ := hrel
    have HZ := Lib.hid hZ
    clear hZ
    by_cases hlt : k < bs.length ∧ k < t
    · obtain ⟨hl1, hl2⟩ := hlt
      obtain ⟨b, off, rfl, _, e0⟩ := hr.at hl1
      obtain ⟨x, hx⟩ : ∃ x : UInt8, x = bs[k] := ⟨_, rfl⟩
      rw [← hx] at e0
      by_cases h0 : x = 0
      · have hZ2 : zerosB bs f (k + 1) = true := zerosB_iff.2 fun i h h1 h2 => by
          by_cases e : i = k
          · subst e; rw [← hx]; exact h0
          · exact zerosB_iff.1 HZ.out i h h1 (by omega)
        subst h0
        have HZ2 := Lib.hid hZ2
        clear hZ2 hx
        go_wp2_with fail
        go_round
        case rel => exact ⟨k + 1, by omega, by omega, by go_num, HZ2.out⟩
        case measure => simp [intOf]; omega
      · have hF : zerosB bs f t = false := by
          cases h : zerosB bs f t with
          | false => rfl
          | true => exact absurd (zerosB_iff.1 h k (by omega) hk (by omega)) (by rw [← hx]; exact h0)
        have HF := Lib.hid hF
        have hx0 : (x.toNat : Int) ≠ 0 := fun h => h0 (by
          apply UInt8.toNat_inj.1
          simpa using h)
        clear hF hx h0
        go_wp2_with fail
        all_goals go_ret
        all_goals exact ⟨by rw [HF.out]; rfl, rfl⟩
    · have hF : zerosB bs f t = true := zerosB_iff.2 fun i h h1 h2 => zerosB_iff.1 HZ.out i h h1 (by omega)
      have HF := Lib.hid hF
      clear hF
      by_cases hl2 : k < t
      · have hl1 : ¬ k < bs.length := by omega
        clear hlt
        go_wp2_with fail
        all_goals go_ret
        all_goals exact ⟨by rw [HF.out]; rfl, rfl⟩
      · clear hlt
        go_wp2_with fail
        all_goals go_ret
        all_goals exact ⟨by rw [HF.out]; rfl, rfl⟩

end Go.Proofs.Ytcebdodogbpglaa.Rdr
