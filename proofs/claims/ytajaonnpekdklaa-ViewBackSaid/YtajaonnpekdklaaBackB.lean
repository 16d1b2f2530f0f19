import Derived.Test.YtajaonnpekdklaaBackA
import Derived.Test.YtajaonnpekdklaaInkD
set_option linter.unusedVariables false
set_option maxRecDepth 100000
/-! THE PLAIN LAW OF VIEWBACK. -/
namespace Go.Proofs.Ytajaonnpekdklaa.Vw
open Go.ChangeShapes Go.WideShapes Go.ChangeAt Go.RowKit Mem

theorem lowByte_nat (x : Nat) : (lowByte (x : Int)).toNat = x % 256 := by
  have h := lowByte_emod (x : Int)
  unfold byt at h
  injection h with _ h
  omega

theorem leV_leB (x : Nat) : ∀ n, leV (leB (x : Int) n) = x % 256 ^ n
  | 0 => by simp [leB, leV, Nat.mod_one]
  | n + 1 => by
    have e : (x : Int) / 256 ^ n = ((x / 256 ^ n : Nat) : Int) := by simp
    rw [leB, leV_snoc, leV_leB x n, leB_length, e, lowByte_nat, Nat.mod_pow_succ, Nat.mul_comm]

def Wd (w : Nat) : Prop := w = 1 ∨ w = 2 ∨ w = 4 ∨ w = 8
instance (w : Nat) : Decidable (Wd w) := inferInstanceAs (Decidable (w = 1 ∨ w = 2 ∨ w = 4 ∨ w = 8))

theorem sign_low {w X : Nat} (hw : Wd w) (hX : X < 256 ^ w) : IntKind.u64.wrap (signV X w) % 2 ^ (8 * w) = X := by
  rcases hw with rfl | rfl | rfl | rfl <;> simp [signV, IntKind.wrap, IntKind.bits, IntKind.signed] at hX ⊢ <;> omega

theorem sign_neg {w X : Nat} (hw : Wd w) (hX : X < 256 ^ w) : decide (signV X w < 0) = decide ((2 : Int) ^ (8 * w - 1) ≤ X) := by
  rcases hw with rfl | rfl | rfl | rfl <;> simp [signV, IntKind.wrap, IntKind.bits, IntKind.signed] at hX ⊢ <;> omega


theorem low_is {w X : Nat} (hw : Wd w) (hX : X < 256 ^ w) : ∃ Z : Nat, IntKind.u64.wrap (signV X w) = Z ∧ Z % 256 ^ w = X ∧ Z ≤ 18446744073709551615 := by
  refine ⟨(IntKind.u64.wrap (signV X w)).toNat, ?_⟩
  have h1 := sign_low hw hX
  have h2 : 0 ≤ IntKind.u64.wrap (signV X w) ∧ IntKind.u64.wrap (signV X w) ≤ 18446744073709551615 := by rw [IntKind.wrap_u64]; omega
  generalize IntKind.u64.wrap (signV X w) = Z at *
  rcases hw with rfl | rfl | rfl | rfl <;> simp at h1 ⊢ <;> omega

theorem last_is {w X Y : Nat} (hw : Wd w) (h : Y % 256 ^ w = X) (h2 : Y ≤ 18446744073709551615) (h3 : w < 8 → Y = X) : Y = X := by
  rcases hw with rfl | rfl | rfl | rfl
  · exact h3 (by omega)
  · exact h3 (by omega)
  · exact h3 (by omega)
  · rw [Nat.mod_eq_of_lt (by omega)] at h; exact h

/-- What the ink of ViewBack holds at last. -/
def laidB (t : ByteArray) (x wd : Nat) : List UInt8 := t.data.toList ++ leB (x : Int) wd

theorem wide_wd {wd : Nat} (hw : Wd wd) : Ink.wideB (wd : Int) = true := by rcases hw with rfl | rfl | rfl | rfl <;> rfl

section
variable {t : ByteArray} {x wd : Nat}
theorem laid_length (t : ByteArray) (x wd : Nat) : (laidB t x wd).length = t.size + wd := by simp [laidB, leB_length]
theorem most_is (hw : Wd wd) (ht : t.size ≤ 16777216 - wd) : Ink.minMost ((t.size : Int) + wd) = (t.size : Int) + wd := by
  unfold Ink.minMost; rcases hw with rfl | rfl | rfl | rfl <;> omega
theorem text_is : Ink.textE ([] : List UInt8).length ((t.size : Int) + wd) t.size = 0 := by unfold Ink.textE; rw [if_pos (by simp; omega)]
theorem textB_is : Ink.textB [] ((t.size : Int) + wd) t.data.toList = t.data.toList := by
  unfold Ink.textB Ink.textE; rw [if_pos (by simp; omega)]; simp
theorem number_is (hw : Wd wd) : Ink.numberE t.data.toList.length ((t.size : Int) + wd) wd = 0 := by
  unfold Ink.numberE; rw [if_pos (wide_wd hw), if_pos (by simp; omega)]
theorem numberB_is (hw : Wd wd) : Ink.numberB t.data.toList ((t.size : Int) + wd) x wd = laidB t x wd := by
  unfold Ink.numberB; rw [if_pos (number_is hw)]; rfl
theorem fill_is : Ink.fillE (laidB t x wd).length ((t.size : Int) + wd) 1 = 4 := by
  unfold Ink.fillE; rw [laid_length, if_neg (by decide), if_neg (by omega)]
theorem fillB_is : Ink.fillB (laidB t x wd) ((t.size : Int) + wd) 1 0 = laidB t x wd := by
  unfold Ink.fillB; rw [fill_is, if_neg (by decide)]
theorem in_is : insideB (t.size : Int) wd (laidB t x wd).length = true := by simp [insideB, laid_length]; omega
theorem in2_is : insideB 0 (t.size : Int) (laidB t x wd).length = true := by simp [insideB, laid_length]; omega
theorem loadE_is (hw : Wd wd) : loadE (laidB t x wd).length (t.size : Int) wd = 0 := by
  unfold loadE; rw [if_pos (wide_wd hw), if_pos in_is]
theorem loadV_is (hw : Wd wd) : loadV (laidB t x wd) (t.size : Int) wd = x % 256 ^ wd := by
  unfold loadV; rw [if_pos (loadE_is hw), Int.toNat_natCast, Int.toNat_natCast]
  have : got (laidB t x wd) t.size wd = leB (x : Int) wd := by
    unfold got laidB
    rw [List.drop_left' (by simp), List.take_of_length_le (by rw [leB_length]; exact Nat.le_refl _)]
  rw [this, leV_leB]
theorem signed_is (hw : Wd wd) : signedV (laidB t x wd) (t.size : Int) wd = signV (x % 256 ^ wd) wd := by
  unfold signedV; rw [if_pos (loadE_is hw), loadV_is hw]
theorem vtextE_is : vtextE (laidB t x wd).length 0 (t.size : Int) = 0 := by unfold vtextE; rw [if_pos in2_is]
theorem vtextV_is : vtextV (laidB t x wd) 0 (t.size : Int) = t := by
  unfold vtextV; rw [if_pos in2_is, Int.toNat_natCast]
  have : got (laidB t x wd) (0 : Int).toNat t.size = t.data.toList := by
    unfold got laidB
    simp
  rw [this]
end

end Go.Proofs.Ytajaonnpekdklaa.Vw
