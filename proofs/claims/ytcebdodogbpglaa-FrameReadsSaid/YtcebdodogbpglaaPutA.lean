import Derived.Test.YtcebdodogbpglaaInkA
import Derived.Laws.BitsAllLaws
set_option linter.unusedVariables false
set_option maxRecDepth 100000
/-! SUMS OF BYTES; MULTIPLES OF EIGHT. -/
namespace Go.Proofs.Ytcebdodogbpglaa.Put
open Go.ChangeShapes Go.WideShapes Go.ChangeAt Go.RowKit Mem

/-- One step of the sum. -/
def sumS (h : Nat) (b : UInt8) : Nat := (h ^^^ b.toNat) * 16777619 % 4294967296
theorem sumS_lt (h : Nat) (b : UInt8) : sumS h b < 4294967296 := by unfold sumS; exact Nat.mod_lt _ (by decide)
def sumV (h : Nat) (bs : List UInt8) : Nat := bs.foldl sumS h
theorem foldl_lt (f : Nat → UInt8 → Nat) (N : Nat) (hf : ∀ h b, f h b < N) : ∀ (bs : List UInt8) (h : Nat), h < N → bs.foldl f h < N
  | [], h, hh => by simpa using hh
  | b :: r, h, hh => by rw [List.foldl_cons]; exact foldl_lt f N hf r _ (hf h b)
theorem sumV_lt {h : Nat} (hh : h < 4294967296) (bs : List UInt8) : sumV h bs < 4294967296 := by
  unfold sumV; exact foldl_lt sumS _ sumS_lt bs h hh

theorem sumV_append (h : Nat) (xs ys : List UInt8) : sumV h (xs ++ ys) = sumV (sumV h xs) ys := by unfold sumV; exact List.foldl_append
theorem sumV_take {h : Nat} {bs : List UInt8} {k : Nat} (hk : k < bs.length) : sumV h (bs.take (k + 1)) = sumS (sumV h (bs.take k)) bs[k] := by
  rw [List.take_succ_eq_append_getElem hk, sumV_append]; generalize sumV h (bs.take k) = y; unfold sumV; rw [List.foldl_cons, List.foldl_nil]

theorem sumS_bits (X : Nat) (c : UInt8) (hX : X < 4294967296) : bits BinOp.xor IntKind.u32 (X : Int) ((c.toNat : Int) % 4294967296) * 16777619 % 4294967296 = ((sumS X c : Nat) : Int) := by
  have hc := c.toNat_lt
  rw [show ((c.toNat : Int) % 4294967296) = ((c.toNat : Nat) : Int) from by omega, u32_xor_nat _ _ hX (by omega)]
  unfold sumS
  generalize X ^^^ c.toNat = y
  omega

theorem sum_calls {L : Nat → Nat} {c : Nat} {w : World} {v : Value} {n : Nat} {bs : List UInt8} (hr : Rd L c w 1 v n (bs.map byt)) (h : Nat) (hh : h < 4294967296) :
    Calls Try.prog 46 #[.int .u32 h, v] w fun e w' => e = .returned (.int .u32 (sumV h bs)) ∧ w = w' := by
  have hbl : bs.length = n := by simpa using hr.1
  subst hbl
  obtain ⟨p, cap, rfl, hn, hm⟩ := hr.shape
  unfold maxLen at hm
  go_enter Try.func46, Try.ntmps46
  go_wp2_with fail
  go_loop [0, 6, 9] (fun x _ i => ∃ k X : Nat, k ≤ bs.length ∧ X = sumV h (bs.take k) ∧ X < 4294967296 ∧ i = .int .i64 k ∧ x = .int .u32 X) (fun _ _ i => bs.length - (intOf i).toNat)
  case atStart => exact ⟨0, h, by omega, rfl, hh, rfl, rfl⟩
  case round =>
    obtain ⟨k, X, hk, hX, hXb, rfl, rfl⟩ := hrel
    have HX := Lib.hid hX
    clear hX
    by_cases hlt : k < bs.length
    · obtain ⟨b, off, rfl, _, e0⟩ := hr.at hlt
      have HS := Lib.hid (sumV_take (h := h) hlt)
      obtain ⟨c, hc⟩ : ∃ c : UInt8, c = bs[k] := ⟨_, rfl⟩
      rw [← hc] at e0 HS
      clear hc
      go_wp2_with fail
      go_round
      case rel => exact ⟨k + 1, sumS X c, by omega, by rw [HS.out, HX.out], sumS_lt _ _, by go_num, by rw [sumS_bits X c hXb]⟩
      case measure => simp [intOf]; omega
    · have e : bs.take k = bs := List.take_of_length_le (by omega)
      have E := Lib.hid e
      clear e
      go_wp2_with fail
      go_ret
      refine ⟨?_, rfl⟩
      show Ending.returned (.int .u32 (X : Int)) = _
      rw [HX.out, E.out]

theorem rsum_calls {L : Nat → Nat} {c : Nat} {w : World} {v : Value} {n : Nat} {bs : List UInt8} (hr : Rd L c w 1 v n (bs.map byt)) (h : Nat) (hh : h < 4294967296) :
    Calls Try.prog 35 #[.int .u32 h, v] w fun e w' => e = .returned (.int .u32 (sumV h bs)) ∧ w = w' := by
  have hbl : bs.length = n := by simpa using hr.1
  subst hbl
  obtain ⟨p, cap, rfl, hn, hm⟩ := hr.shape
  unfold maxLen at hm
  go_enter Try.func35, Try.ntmps35
  go_wp2_with fail
  go_loop [0, 5] (fun x i => ∃ k X : Nat, k ≤ bs.length ∧ X = sumV h (bs.take k) ∧ X < 4294967296 ∧ i = .int .i64 k ∧ x = .int .u32 X) (fun _ i => bs.length - (intOf i).toNat)
  case atStart => exact ⟨0, h, by omega, rfl, hh, rfl, rfl⟩
  case round =>
    obtain ⟨k, X, hk, hX, hXb, rfl, rfl⟩ := hrel
    have HX := Lib.hid hX
    clear hX
    by_cases hlt : k < bs.length
    · obtain ⟨b, off, rfl, _, e0⟩ := hr.at hlt
      have HS := Lib.hid (sumV_take (h := h) hlt)
      obtain ⟨c, hc⟩ : ∃ c : UInt8, c = bs[k] := ⟨_, rfl⟩
      rw [← hc] at e0 HS
      clear hc
      go_wp2_with fail
      go_round
      case rel => exact ⟨k + 1, sumS X c, by omega, by rw [HS.out, HX.out], sumS_lt _ _, by go_num, by rw [sumS_bits X c hXb]⟩
      case measure => simp [intOf]; omega
    · have e : bs.take k = bs := List.take_of_length_le (by omega)
      have E := Lib.hid e
      clear e
      go_wp2_with fail
      go_ret
      refine ⟨?_, rfl⟩
      show Ending.returned (.int .u32 (X : Int)) = _
      rw [HX.out, E.out]

theorem padded_calls (n : Int) (hn : 0 ≤ n) (hn2 : n ≤ 9223372036854775800) (w : World) :
    Calls Try.prog 43 #[.int .i64 n] w fun e w' => e = .returned (.int .i64 ((n + 7) / 8 * 8)) ∧ w = w' := by
  go_enter Try.func43, Try.ntmps43
  go_wp2_with fail
  go_ret
  exact ⟨rfl, rfl⟩

theorem up_calls (n : Int) (hn : 0 ≤ n) (hn2 : n ≤ 9223372036854775800) (w : World) :
    Calls Try.prog 36 #[.int .i64 n] w fun e w' => e = .returned (.int .i64 ((n + 7) / 8 * 8)) ∧ w = w' := by
  go_enter Try.func36, Try.ntmps36
  go_wp2_with fail
  go_ret
  exact ⟨rfl, rfl⟩

end Go.Proofs.Ytcebdodogbpglaa.Put
