import Derived.Test.YtcebdodogbpglaaInkA
set_option linter.unusedVariables false
set_option maxRecDepth 100000
namespace Go.Proofs.Ytcebdodogbpglaa.Ink
open Go.ChangeShapes Go.WideShapes Go.ChangeAt Go.RowKit Mem

def sameB (xs bs : List UInt8) : Bool := decide (xs = bs)

theorem byt_ne (a b : UInt8) : ((a.toNat : Int) != (b.toNat : Int)) = (a != b) := by
  by_cases h : a = b
  · subst h; simp
  · have h2 : a.toNat ≠ b.toNat := fun e => h (UInt8.toNat_inj.1 e)
    have : ((a.toNat : Int) != (b.toNat : Int)) = true := by simp; omega
    rw [this]; simp [h]

theorem same_calls {L : Nat → Nat} {c1 c2 : Nat} {w : World} {va vb : Value} {xs bs : List UInt8} (ha : Rd L c1 w 1 va xs.length (xs.map byt)) (hb : Rd L c2 w 1 vb bs.length (bs.map byt)) :
    Calls Try.prog 12 #[va, vb] w fun e w' => e = .returned (.bool (sameB xs bs)) ∧ ∃ k, w' = w.drewN k := by
  obtain ⟨pa, ca, rfl, hna, hma⟩ := ha.shape
  obtain ⟨pb, cb, rfl, hnb, hmb⟩ := hb.shape
  unfold maxLen at hma hmb
  by_cases hlen : xs.length = bs.length
  · have hle : ((xs.length : Int) != bs.length) = false := by simp [hlen]
    have HLEN := Lib.hid hlen
    clear hlen
    go_enter Try.func12, Try.ntmps12
    go_wp2_with fail
    go_loopw [5] (fun i wr => ∃ (k n : Nat), k ≤ xs.length ∧ i = .int .i64 k ∧ wr = w.drewN n ∧ xs.take k = bs.take k) (fun i _ => xs.length - (intOf i).toNat)
    case atStart => exact ⟨0, 0, by omega, rfl, rfl, rfl⟩
    case round =>
      obtain ⟨k, n, hk, rfl, rfl, hpre⟩ := hrel
      have HP := Lib.hid hpre
      clear hpre
      by_cases hlt : k < xs.length
      · have hlt2 : k < bs.length := by have := HLEN.out; omega
        obtain ⟨b1, o1, rfl, _, e1⟩ := ha.at hlt
        obtain ⟨b2, o2, rfl, _, e2⟩ := hb.at hlt2
        by_cases heq : xs[k] = bs[k]
        · have hne : ((xs[k].toNat : Int) != (bs[k].toNat : Int)) = false := by rw [byt_ne]; simp [heq]
          have HEQ := Lib.hid heq
          clear heq
          go_wp2_with fail
          go_quiet (fail)
          go_wp2_with fail
          go_roundw
          case rel => exact ⟨k + 1, _, by omega, by go_num, rfl, by rw [List.take_succ_eq_append_getElem hlt, List.take_succ_eq_append_getElem hlt2, HP.out, HEQ.out]⟩
          case measure => simp [intOf]; omega
        · have hne : ((xs[k].toNat : Int) != (bs[k].toNat : Int)) = true := by rw [byt_ne]; simp [heq]
          have hs : sameB xs bs = false := by
            unfold sameB; rw [decide_eq_false_iff_not]; intro e; subst e; exact heq rfl
          have HS := Lib.hid hs
          clear heq hs
          go_wp2_with fail
          go_quiet (fail)
          go_wp2_with fail
          go_ret
          exact ⟨by rw [HS.out]; rfl, n + _, by rw [← World.drewN_drewN]⟩
      · have hs : sameB xs bs = true := by
          unfold sameB; rw [decide_eq_true_iff]
          have h1 := HP.out
          have h2 := HLEN.out
          rwa [List.take_of_length_le (by omega), List.take_of_length_le (by omega)] at h1
        have HS := Lib.hid hs
        clear hs
        go_wp2_with fail
        go_ret
        exact ⟨by rw [HS.out]; rfl, _, rfl⟩
  · have hle : ((xs.length : Int) != bs.length) = true := by simp; omega
    have hs : sameB xs bs = false := by
      unfold sameB; rw [decide_eq_false_iff_not]; intro e; subst e; exact hlen rfl
    have HS := Lib.hid hs
    clear hs hlen
    go_enter Try.func12, Try.ntmps12
    go_wp2_with fail
    go_ret
    exact ⟨by rw [HS.out]; rfl, 0, rfl⟩

end Go.Proofs.Ytcebdodogbpglaa.Ink
