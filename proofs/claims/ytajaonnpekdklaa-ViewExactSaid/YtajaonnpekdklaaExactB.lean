import Derived.Test.YtajaonnpekdklaaExactA
import Derived.WalkKit
import Derived.ProofKit
import Derived.OpenShut
import Derived.BigQuiet
import Derived.Deep.QuietTactic
import Derived.Lib.Hide
namespace Go.Proofs.Ytajaonnpekdklaa.viewExact
open Go.ChangeShapes Go.WideShapes Go.ChangeAt Go.RowKit
set_option maxRecDepth 100000
def m44 : Value := .int .i64 (-44)

theorem exact_walk (zs : List Int) (p : Option Addr) (cap : Nat) (a b : Int) (w : World) (hl : zs.length * 8 ≤ 140737488351232) (hr : Reads w p zs)
    (hz : ∀ k (h : k < zs.length), -9223372036854775808 ≤ zs[k] ∧ zs[k] ≤ 9223372036854775807)
    (h1 : -9223372036854775808 ≤ a) (h2 : a ≤ 9223372036854775807) (h3 : -9223372036854775808 ≤ b) (h4 : b ≤ 9223372036854775807) :
    Calls Try.prog 4 #[.slice p zs.length cap, .int .i64 a, .int .i64 b] w fun e w' => e = .returned (.bool true) ∧ Below w.heap.size w w' := by
  obtain ⟨i0, hi, hz0, hz1, hz2⟩ := info_parts (P := Try.prog) (e := 3) (z := .int .i64 0) (size := 1) (bytes := 8) (by kernel_rfl)
  have hmk := run_make (P := Try.prog) w 23 3 i0 _ Try.underlying23 hi hz0 .i64 .i64 (zs.length + 3) (zs.length + 3) (by omega) (by omega) (by rw [hz2]; omega) (by omega)
  obtain ⟨C, hC⟩ : ∃ C, C = madeCells (Value.int .i64 0).cells ((zs.length + 3 : Int).toNat * i0.size) := ⟨_, rfl⟩
  rw [← hC] at hmk
  have hCs : C.size = zs.length + 3 := by rw [hC, size_madeCells, hz1]; omega
  clear hC
  rw [show ((zs.length : Int) + 3).toNat = zs.length + 3 from by omega] at hmk
  have hcp := run_copy_last (P := Try.prog) w 23 23 3 3 C 3 (zs.length + 3) (zs.length + 3) zs.length cap p zs Try.underlying23 (by rw [hi]; simp [hz1]) rfl (by omega) hCs (by omega) hr
  go_enter Try.func4, Try.ntmps4
  go_wp2_with fail
  obtain ⟨D, hD⟩ : ∃ D, D = (List.map (Value.int IntKind.i64) zs ++ List.drop zs.length C.toList).toArray := ⟨_, rfl⟩
  rw [← hD]
  have hDs : D.size = zs.length + 3 := by rw [hD]; simp; omega
  have hDz : ∀ j (h : j < zs.length), D[j]? = some (.int .i64 zs[j]) := by
    intro j h; rw [hD]; simp [List.getElem?_append_left, h]
  clear hD hcp hmk
  have HDz := Lib.hid hDz
  clear hDz
  go_loopw [8] (fun i wr => ∃ (k : Nat) (E : Array Value), k ≤ 3 ∧ i = .int .i64 (zs.length + k : Nat) ∧ wr = w.alloc (.cells E 3) ∧ E.size = zs.length + 3 ∧ (∀ j (h : j < zs.length), E[j]? = some (.int .i64 zs[j])) ∧ (∀ j, zs.length ≤ j → j < zs.length + k → E[j]? = some (.int .i64 (-44)))) (fun i _ => zs.length + 3 - (intOf i).toNat)
  case atStart => exact ⟨0, D, by omega, rfl, rfl, hDs, HDz.out, fun j h h' => by omega⟩
  case round =>
    obtain ⟨k, E, hk, rfl, rfl, hEs, hE1, hE2⟩ := hrel
    by_cases hk3 : k < 3
    · have hcell : E[zs.length + k]? = some E[zs.length + k] := by simp
      have H1 := Lib.hid hE1
      have H2 := Lib.hid hE2
      have Hs := Lib.hid hEs
      clear hE1 hE2
      go_wp2_with fail
      go_roundw
      case rel =>
        have he := Hs.out
        refine ⟨k + 1, _, by omega, by go_num, rfl, by simp [he], ?_, ?_⟩
        · intro j h
          rw [Array.getElem?_setIfInBounds_ne (by omega)]; exact H1.out j h
        · intro j h h'
          by_cases e : zs.length + k = j
          · subst e; rw [Array.getElem?_setIfInBounds_self_of_lt (by omega)]
          · rw [Array.getElem?_setIfInBounds_ne e]; exact H2.out j h (by omega)
      case measure => simp [intOf]; omega
    · have hR : Reads (w.alloc (.cells E 3)) (some ⟨w.heap.size, 0, none⟩) zs := by
        intro j hj
        refine ⟨_, _, rfl, ?_⟩
        have := hE1 j hj
        simp [this, hj]
      have hR' : Reads (w.alloc (.cells E 3)) p zs := by
        intro j hj
        obtain ⟨b, off, rfl, hc⟩ := hr j hj
        exact ⟨b, off, rfl, by rw [World.cell?_alloc_lt _ _ _ (by exact cell_lt (a := ⟨b, off + j, none⟩) hc)]; exact hc⟩
      have hR2 : Reads ((w.alloc (.cells E 3)).alloc (.cells #[.int .i64 2, .int .i64 3] 3)) (some ⟨w.heap.size + 1, 0, none⟩) [2, 3] := by
        intro j hj
        refine ⟨_, _, rfl, ?_⟩
        match j, hj with
        | 0, _ => simp
        | 1, _ => simp
      have H1 := Lib.hid hE1
      have H2 := Lib.hid hE2
      have Hs := Lib.hid hEs
      clear hE1 hE2 hEs
      go_wp2_with fail
      refine (sum_walk zs _ _ _ (by unfold maxLen; omega) hR hz).mono ?_; rintro e w1 ⟨rfl, rfl⟩
      go_wp2_with fail
      refine (rsum_walk zs _ _ _ (by unfold maxLen; omega) hR' hz).mono ?_; rintro e w1 ⟨rfl, rfl⟩
      go_wp2_with fail
      refine (times_walk a b _ h1 h2 h3 h4).mono ?_; rintro e w1 ⟨rfl, rfl⟩
      go_wp2_with fail
      refine (rtimes_walk a b _ h1 h2 h3 h4).mono ?_; rintro e w1 ⟨rfl, rfl⟩
      go_wp2_with fail
      refine (sum_walk [2, 3] _ _ _ (by unfold maxLen; simp) hR2 (by simp; intro k hk; match k, hk with | 0, _ => simp | 1, _ => simp)).mono ?_; rintro e w1 ⟨rfl, rfl⟩
      go_wp2_with fail
      obtain ⟨g1, g2⟩ : sumG [2, 3] = 5 ∧ sumB [2, 3] = true := ⟨by decide, by decide⟩
      rw [g1, g2]
      clear g1 g2 hR2 hR hR'
      obtain ⟨W, hW⟩ : ∃ W, W = (w.alloc (Obj.cells E 3)).alloc (Obj.cells #[Value.int IntKind.i64 2, Value.int IntKind.i64 3] 3) := ⟨_, rfl⟩
      rw [← hW]
      have hB : Below w.heap.size w W := by
        rw [hW]; exact ((Below.refl _ _).alloc (Nat.le_refl _) _).alloc (by simp) _
      have cE : ∀ j, W.cell? ⟨w.heap.size, j, none⟩ = E[j]? := by intro j; rw [hW]; simp
      have HE := Lib.hid cE
      clear cE hW
      go_loopw [19] (fun i wr => ∃ (k : Nat) (n : Nat), k ≤ zs.length + 3 ∧ i = .int .i64 k ∧ wr = W.drewN n) (fun i _ => zs.length + 3 - (intOf i).toNat)
      case atStart => exact ⟨0, 0, by omega, rfl, rfl⟩
      case round =>
        obtain ⟨m, n, hm, rfl, rfl⟩ := hrel
        by_cases hm3 : m < zs.length
        · obtain ⟨b, off, rfl, hc⟩ := hr m hm3
          have hc1 : W.cell? ⟨b, off + m, none⟩ = some (.int .i64 zs[m]) := by
            rw [hB.cell (p := ⟨b, off + m, none⟩) (cell_lt (a := ⟨b, off + m, none⟩) hc), hc]; simp [hm3]
          have hc2 : W.cell? ⟨w.heap.size, m, none⟩ = some (.int .i64 zs[m]) := by
            rw [HE.out, H1.out m hm3]
          clear hc
          have HB := Lib.hid hB
          clear hB
          have hg : decide (zs.length ≤ m) = false := by simp; omega
          go_wp2_with fail
          go_quiet (fail)
          go_wp2_with fail
          go_roundw
          case rel => exact ⟨m + 1, n + nq, by omega, by go_num, rfl⟩
          case measure => simp [intOf]; omega
        · by_cases hm4 : m < zs.length + 3
          · have hc2 : W.cell? ⟨w.heap.size, m, none⟩ = some (.int .i64 (-44)) := by
              rw [HE.out, H2.out m (by omega) (by omega)]
            have HB := Lib.hid hB
            clear hB
            have hg0 : decide (m < zs.length) = false := by simp; omega
            have hg : decide (zs.length ≤ m) = true := by simp; omega
            go_wp2_with fail
            go_quiet (fail)
            go_wp2_with fail
            go_roundw
            case rel => exact ⟨m + 1, n + nq, by omega, by go_num, rfl⟩
            case measure => simp [intOf]; omega
          · have HB := Lib.hid hB
            clear hB
            have q1 : (sumG zs == sumG zs) = true := by simp
            have q2 : (sumB zs == sumB zs) = true := by simp
            have q3 : (timesG a b == timesG a b) = true := by simp
            have q4 : (timesB a b == timesB a b) = true := by simp
            go_wp2_with fail
            go_ret
            exact ⟨rfl, HB.out.trans ⟨rfl, rfl, rfl, Nat.le_refl _, fun _ _ => rfl⟩⟩

end Go.Proofs.Ytajaonnpekdklaa.viewExact
