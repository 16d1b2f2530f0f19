import Derived.Test.YtkhpgcbjmopkfaaGreatDoorFi
import Derived.Test.YtkhpgcbjmopkfaaGreatDoorHa
set_option linter.unusedVariables false
set_option maxRecDepth 100000
/-!
  MAY NUMBERS BE KEYS OF SO MANY COLUMNS? No conditions.
-/
namespace Go.Fld
open Go Go.RowKit Go.Proofs Go.ChangeShapes Go.WideShapes Go.ChangeAt Go.Shelf

def keyOk (n : Nat) (ks : List Int) (i : Nat) (hi : i < ks.length) : Prop := (0 ≤ ks[i] ∧ ks[i] < n) ∧ ∀ (j : Nat) (hj : j < ks.length), j < i → ks[j] ≠ ks[i]
def KeysOk (n : Nat) (ks : List Int) : Prop := ∀ (i : Nat) (hi : i < ks.length), keyOk n ks i hi
noncomputable def keysB (n : Nat) (ks : List Int) : Bool := @decide (KeysOk n ks) (Classical.propDecidable _)
theorem keysB_true {n : Nat} {ks : List Int} (h : ∀ (i : Nat) (hi : i < ks.length), keyOk n ks i hi) : keysB n ks = true := @decide_eq_true _ (Classical.propDecidable _) h
theorem keysB_false {n : Nat} {ks : List Int} {i : Nat} (hi : i < ks.length) (h : ¬ keyOk n ks i hi) : keysB n ks = false := @decide_eq_false _ (Classical.propDecidable _) (fun g => h (g i hi))
theorem keysB_iff {n : Nat} {ks : List Int} : keysB n ks = true ↔ KeysOk n ks := by
  unfold keysB
  exact @decide_eq_true_iff _ (Classical.propDecidable _)

theorem IntsAt.take {w : World} {l : List Int} {p : Option Addr} {n cap : Nat} (h : IntsAt w l (.slice p n cap)) {k : Nat} (hk : k ≤ l.length) : IntsAt w (l.take k) (.slice p k cap) := by
  obtain ⟨q, c, e, h1, h2, h3⟩ := h
  cases e
  refine ⟨p, cap, by simp [Nat.min_eq_left hk], by simp; omega, h2, fun i hi => ?_⟩
  obtain ⟨g1, g2⟩ := h3 i (by simp at hi; omega)
  simpa using ⟨g1, g2⟩

set_option maxHeartbeats 1000000 in
theorem names_calls {w : World} {sb : Nat} {fp : Option Addr} {n fc : Nat} {ks : List Int} {kv : Value} (hn : n ≤ 9223372036854775807) (h0 : w.cell? ⟨sb, 0, none⟩ = some (.slice fp n fc)) (h2 : w.cell? ⟨sb, 2, none⟩ = some kv) (hk : IntsAt w ks kv) :
    Calls Tryz.prog 30 #[.pointer (some ⟨sb, 0, none⟩)] w (StillPost w (.bool (keysB n ks))) := by
  have HK := Lib.hid hk
  obtain ⟨p, cap, rfl, hl, hm, hC⟩ := hk
  unfold maxLen at hm
  have HC := Lib.hid hC
  have C0 := Lib.hid h0
  have C2 := Lib.hid h2
  have hsb := World.block_lt_of_cell? w _ h0
  clear hC
  go_enter Tryz.func30, Tryz.ntmps30
  go_wp2_with fail
  clear h0 h2
  go_loopw [10] (fun i wr => ∃ k : Nat, k ≤ ks.length ∧ i = .int .i64 k ∧ wr = w ∧ Hid (∀ (j : Nat) (hj : j < ks.length), j < k → keyOk n ks j hj)) (fun i _ => ks.length - (intOf i).toNat)
  case atStart => exact ⟨0, by omega, rfl, rfl, Lib.hid (fun j hj h => absurd h (Nat.not_lt_zero _))⟩
  case round =>
    obtain ⟨k, hk, rfl, rfl, HA⟩ := hrel
    by_cases hlt : k < ks.length
    · obtain ⟨hx, b, o, rfl, c0⟩ := HC.out k hlt
      have h0 := C0.out
      have h2 := C2.out
      have hko := Lib.hid (show keyOk n ks k hlt ↔ ((0 ≤ ks[k] ∧ ks[k] < n) ∧ decide (0 ≤ idxI (ks.take k) ks[k]) = false) from by
        unfold keyOk
        refine and_congr Iff.rfl ⟨fun h => ?_, fun h j hj hjk e => ?_⟩
        · cases hd : decide (0 ≤ idxI (ks.take k) ks[k]) with
          | false => rfl
          | true =>
            obtain ⟨j, hj, e⟩ := idxI_mem.1 hd
            have hj2 : j < min k ks.length := by rw [← List.length_take]; exact hj
            have hjl : j < ks.length := by omega
            exact absurd (by simpa using e) (h j hjl (by omega))
        · rw [idxI_mem.2 ⟨j, (by have := List.length_take (i := k) (l := ks); omega), by simpa using e⟩] at h
          cases h)
      have BAD := Lib.hid (fun h => keysB_false (n := n) hlt h)
      have NXT := Lib.hid (show keyOk n ks k hlt → ∀ (j : Nat) (hj : j < ks.length), j < k + 1 → keyOk n ks j hj from fun ht j hj hjk => by
        by_cases e : j = k
        · subst e; exact ht
        · exact HA.out j hj (by omega))
      generalize ks[k] = c at *
      by_cases hneg : c < 0
      · have HE := Lib.hid (BAD.out (fun h => by have := (hko.out.1 h).1.1; omega))
        go_wp2_with fail
        go_ret
        exact still_post (by rw [HE.out]; rfl) rfl
      by_cases hbig : (n : Int) ≤ c
      · have HE := Lib.hid (BAD.out (fun h => by have := (hko.out.1 h).1.2; omega))
        go_wp2_with fail
        go_ret
        exact still_post (by rw [HE.out]; rfl) rfl
      go_wp2_with fail
      refine (has_calls (l := ks.take k) (HK.out.take hk) c).mono ?_
      rintro e w1 ⟨rfl, rfl⟩
      generalize decide (0 ≤ idxI (ks.take k) c) = t at *
      cases t with
      | true =>
        have HE := Lib.hid (BAD.out (fun h => by have := (hko.out.1 h).2; cases this))
        clear BAD NXT hko
        go_wp2_with fail
        go_ret
        exact still_post (by rw [HE.out]; rfl) rfl
      | false =>
        have HN := Lib.hid (NXT.out (hko.out.2 ⟨⟨by omega, by omega⟩, rfl⟩))
        clear BAD NXT hko
        go_wp2_with fail
        go_round
        case rel => exact ⟨k + 1, by omega, by go_num, trivial, HN⟩
        case measure => simp [intOf]; omega
    · have HE := Lib.hid (keysB_true (n := n) (ks := ks) (fun j hj => HA.out j hj (by omega)))
      go_wp2_with fail
      go_ret
      exact still_post (by rw [HE.out]; rfl) rfl

set_option maxHeartbeats 1000000 in
theorem may_calls {w : World} {fp : Option Addr} {n fc : Nat} {nv : Value} {ks : List Int} {kv : Value} (hn : n ≤ 9223372036854775807) (hk : IntsAt w ks kv) :
    Calls Tryz.prog 36 #[.agg #[.slice fp n fc, nv], kv] w (BoolPost w (keysB n ks)) := by
  obtain ⟨p, cap, rfl, hl, hm, hC⟩ := hk
  unfold maxLen at hm
  have HC := Lib.hid hC
  clear hC
  go_enter Tryz.func36, Tryz.ntmps36
  go_wp2_with fail
  obtain ⟨W, hW⟩ : ∃ W, W = w.alloc (.cells #[.slice fp n fc, nv] 26) := ⟨_, rfl⟩
  have hBW : Below w.heap.size w W := by rw [hW]; exact (Below.refl _ w).alloc (Nat.le_refl _) _
  have a1 : BoxN W w.heap.size 26 [.slice fp n fc, nv] := by rw [hW]; exact BoxN.new w 26 _
  rw [← hW]
  clear hW
  have HBW := Lib.hid hBW
  have A1 := Lib.hid a1
  clear hBW a1
  go_loopw [5] (fun i wr => ∃ k : Nat, k ≤ ks.length ∧ i = .int .i64 k ∧ Hid (Below W.heap.size W wr) ∧ Hid (∀ (j : Nat) (hj : j < ks.length), j < k → keyOk n ks j hj)) (fun i _ => ks.length - (intOf i).toNat)
  case atStart => exact ⟨0, by omega, rfl, Lib.hid (Below.refl _ _), Lib.hid (fun j hj h => absurd h (Nat.not_lt_zero _))⟩
  case round =>
    obtain ⟨k, hk, rfl, HBr, HA⟩ := hrel
    have HB := Lib.hid (HBW.out.trans (HBr.out.mono HBW.out.size))
    by_cases hlt : k < ks.length
    · obtain ⟨hx, b, o, rfl, c0⟩ := HC.out k hlt
      have C0 := Lib.hid c0
      have c0 := cell_below HB.out c0
      have h0 := cell_below HBr.out (A1.out.row 0 _ rfl)
      have hlb : w.heap.size < wr.heap.size := by have := HBr.out.size; have := A1.out.lt; omega
      have BAD := Lib.hid (fun h => keysB_false (n := n) hlt h)
      have NXT := Lib.hid (show keyOk n ks k hlt → ∀ (j : Nat) (hj : j < ks.length), j < k + 1 → keyOk n ks j hj from fun ht j hj hjk => by
        by_cases e : j = k
        · subst e; exact ht
        · exact HA.out j hj (by omega))
      have hko := Lib.hid (show keyOk n ks k hlt ↔ ((0 ≤ ks[k] ∧ ks[k] < n) ∧ ∀ (j : Nat) (hj : j < ks.length), j < k → ks[j] ≠ ks[k]) from Iff.rfl)
      generalize ks[k] = c at *
      by_cases hneg : c < 0
      · have HE := Lib.hid (BAD.out (fun h => by have := (hko.out.1 h).1.1; omega))
        go_wp2_with fail
        go_quiet (fail)
        go_wp2_with fail
        go_ret
        exact bool_post HE.out.symm (below_drewN HB.out _)
      by_cases hbig : (n : Int) ≤ c
      · have HE := Lib.hid (BAD.out (fun h => by have := (hko.out.1 h).1.2; omega))
        go_wp2_with fail
        go_quiet (fail)
        go_wp2_with fail
        go_ret
        exact bool_post HE.out.symm (below_drewN HB.out _)
      go_wp2_with fail
      go_quiet (fail)
      go_wp2_with fail
      have HBd := Lib.hid (below_drewN HBr.out nq)
      clear c0 h0 hlb
      go_loopw [6] (fun i wi => ∃ j : Nat, j ≤ k ∧ i = .int .i64 j ∧ Hid (Below W.heap.size W wi) ∧ Hid (∀ (t : Nat) (ht : t < ks.length), t < j → ks[t] ≠ c)) (fun i _ => k - (intOf i).toNat)
      case atStart => exact ⟨0, by omega, rfl, HBd, Lib.hid (fun t ht h => absurd h (Nat.not_lt_zero _))⟩
      case round =>
        obtain ⟨j, hj, rfl, HBj, HJ⟩ := hrel
        have HBw := Lib.hid (HBW.out.trans (HBj.out.mono HBW.out.size))
        by_cases hjk : j < k
        · obtain ⟨hx2, b2, o2, e2, d0⟩ := HC.out j (by omega)
          cases e2
          have d0 := cell_below HBw.out d0
          have d1 := cell_below HBw.out C0.out
          have JN := Lib.hid (show ks[j] ≠ c → ∀ (t : Nat) (ht : t < ks.length), t < j + 1 → ks[t] ≠ c from fun hne t ht htj => by
            by_cases e : t = j
            · subst e; exact hne
            · exact HJ.out t ht (by omega))
          have JB := Lib.hid (show ks[j] = c → keysB n ks = false from fun he => BAD.out (fun h => (hko.out.1 h).2 j (by omega) hjk he))
          generalize ks[j] = y at *
          by_cases hyc : y = c
          · have HE := Lib.hid (JB.out hyc)
            have q1 : (y == c) = true := by simpa using hyc
            clear hyc
            go_wp2_with fail
            go_quiet (fail)
            go_wp2_with fail
            go_ret
            exact bool_post HE.out.symm (below_drewN HBw.out _)
          · have HN := Lib.hid (JN.out hyc)
            have q1 : (y == c) = false := by simpa using hyc
            clear hyc
            go_wp2_with fail
            go_quiet (fail)
            go_wp2_with fail
            go_round
            case rel => exact ⟨j + 1, by omega, by go_num, Lib.hid (below_drewN HBj.out _), HN⟩
            case measure => simp [intOf]; omega
        · have HN := Lib.hid (NXT.out (hko.out.2 ⟨⟨by omega, by omega⟩, fun t ht htk => HJ.out t ht (by omega)⟩))
          go_wp2_with fail
          go_round
          case rel => exact ⟨k + 1, by omega, by go_num, HBj, HN⟩
          case measure => simp [intOf]; omega
    · have HE := Lib.hid (keysB_true (n := n) (ks := ks) (fun j hj => HA.out j hj (by omega)))
      go_wp2_with fail
      go_ret
      exact bool_post HE.out.symm HB.out

end Go.Fld
