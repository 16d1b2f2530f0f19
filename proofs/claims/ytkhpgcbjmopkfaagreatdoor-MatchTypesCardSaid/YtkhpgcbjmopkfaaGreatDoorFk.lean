import Derived.Test.YtkhpgcbjmopkfaaGreatDoorFd
set_option linter.unusedVariables false
set_option maxRecDepth 100000
/-!
  THE REFERENCE's NAMES; Nullable. No conditions.
-/
namespace Go.Fld
open Go Go.RowKit Go.Proofs Go.ChangeShapes Go.WideShapes Go.ChangeAt

theorem nameB_letters {s : ByteArray} (h0 : 0 < s.size) (h48 : s.size ≤ 48) (hd : ¬ (48 ≤ (s[0]'h0).toNat ∧ (s[0]'h0).toNat ≤ 57)) (h : ∀ k (hk : k < s.size), letterB (s[k]).toNat = true) : nameB s = true := by
  have hsz : s.data.toList.length = s.size := Array.length_toList
  rw [nameB_good]
  · simp [h0, h48]
  · intro k hk
    have hk' : k < s.size := by rw [← hsz]; exact hk
    have e : s.data.toList[k] = s[k] := by rw [Array.getElem_toList]; rfl
    rw [e]
    unfold okAt
    rw [h k hk']
    by_cases e0 : k = 0
    · subst e0
      simp
      omega
    · simp [e0]
theorem nameB_letter {s : ByteArray} {k : Nat} (hk : k < s.size) (h : letterB (s[k]).toNat = false) : nameB s = false := by
  have hsz : s.data.toList.length = s.size := Array.length_toList
  have hk' : k < s.data.toList.length := by rw [hsz]; exact hk
  refine nameB_bad (k := k) hk' ?_
  have e : s.data.toList[k] = s[k] := by rw [Array.getElem_toList]; rfl
  rw [e]
  simp [okAt, h]
theorem nameB_digit {s : ByteArray} (h0 : 0 < s.size) (hd : 48 ≤ (s[0]'h0).toNat ∧ (s[0]'h0).toNat ≤ 57) : nameB s = false := by
  have hsz : s.data.toList.length = s.size := Array.length_toList
  have hk' : 0 < s.data.toList.length := by rw [hsz]; exact h0
  refine nameB_bad (k := 0) hk' ?_
  have e : s.data.toList[0] = s[0] := by rw [Array.getElem_toList]; rfl
  rw [e]
  simp [okAt, hd]

theorem rnamed_calls (s : ByteArray) (hs : s.size ≤ maxLen) (w : World) : Calls Tryz.prog 50 #[.string s] w fun e w' => e = .returned (.bool (nameB s)) ∧ w' = w := by
  unfold maxLen at hs
  by_cases h0 : s.size = 0
  · have E := Lib.hid (show nameB s = false by unfold nameB; simp [h0])
    have hlt : s.size < 1 := by omega
    clear h0
    go_enter Tryz.func50, Tryz.ntmps50
    go_wp2_with fail
    go_ret
    exact ⟨by rw [E.out]; rfl, rfl⟩
  by_cases h48 : 48 < s.size
  · have E := Lib.hid (show nameB s = false by unfold nameB; rw [show decide (s.size ≤ 48) = false by simpa using h48]; simp)
    go_enter Tryz.func50, Tryz.ntmps50
    go_wp2_with fail
    go_ret
    exact ⟨by rw [E.out]; rfl, rfl⟩
  have hpos : 0 < s.size := by omega
  have HD := Lib.hid (nameB_digit hpos)
  have HL := Lib.hid (nameB_letters hpos (by omega))
  have hcl := (s[0]'hpos).toNat_lt
  by_cases hd : 48 ≤ (s[0]'hpos).toNat ∧ (s[0]'hpos).toNat ≤ 57
  · have E := Lib.hid (HD.out hd)
    obtain ⟨d1, d2⟩ := hd
    go_enter Tryz.func50, Tryz.ntmps50
    go_wp2_with fail
    · go_ret
      exact ⟨by rw [E.out]; rfl, rfl⟩
    all_goals (exfalso; omega)
  · go_enter Tryz.func50, Tryz.ntmps50
    go_wp2_with fail
    all_goals try (exfalso; omega)
    · go_loop [3] (fun i => ∃ k : Nat, k ≤ s.size ∧ i = .int .i64 k ∧ Hid (∀ j (hj : j < s.size), j < k → letterB (s[j]).toNat = true)) (fun i => s.size - (intOf i).toNat)
      case atStart => exact ⟨0, by omega, rfl, Lib.hid (fun j hj h => absurd h (Nat.not_lt_zero _))⟩
      case round =>
        obtain ⟨k, hk, rfl, H⟩ := hrel
        by_cases hlt : k < s.size
        · have HB := Lib.hid (nameB_letter hlt)
          go_wp2_with fail
          have hcl := (s[k]).toNat_lt
          refine (rletter_calls (s[k]).toNat (by omega) w).mono ?_; rintro e w1 ⟨rfl, rfl⟩
          cases hL : letterB (s[k]).toNat with
          | false =>
            have E := Lib.hid (HB.out hL)
            clear hL
            go_wp2_with fail
            go_ret
            exact ⟨by rw [E.out]; rfl, rfl⟩
          | true =>
            have N : Hid (∀ j (hj : j < s.size), j < k + 1 → letterB (s[j]).toNat = true) := Lib.hid (fun j hj hjk => by
              by_cases e : j = k
              · subst e; exact hL
              · exact H.out j hj (by omega))
            clear hL
            go_wp2_with fail
            go_round
            case rel => exact ⟨k + 1, by omega, by go_num, N⟩
            case measure => simp [intOf]; omega
        · have E := Lib.hid (HL.out hd (fun j hj => H.out j hj (by omega)))
          go_wp2_with fail
          go_ret
          exact ⟨by rw [E.out]; rfl, rfl⟩
    · go_loop [3] (fun i => ∃ k : Nat, k ≤ s.size ∧ i = .int .i64 k ∧ Hid (∀ j (hj : j < s.size), j < k → letterB (s[j]).toNat = true)) (fun i => s.size - (intOf i).toNat)
      case atStart => exact ⟨0, by omega, rfl, Lib.hid (fun j hj h => absurd h (Nat.not_lt_zero _))⟩
      case round =>
        obtain ⟨k, hk, rfl, H⟩ := hrel
        by_cases hlt : k < s.size
        · have HB := Lib.hid (nameB_letter hlt)
          go_wp2_with fail
          have hcl := (s[k]).toNat_lt
          refine (rletter_calls (s[k]).toNat (by omega) w).mono ?_; rintro e w1 ⟨rfl, rfl⟩
          cases hL : letterB (s[k]).toNat with
          | false =>
            have E := Lib.hid (HB.out hL)
            clear hL
            go_wp2_with fail
            go_ret
            exact ⟨by rw [E.out]; rfl, rfl⟩
          | true =>
            have N : Hid (∀ j (hj : j < s.size), j < k + 1 → letterB (s[j]).toNat = true) := Lib.hid (fun j hj hjk => by
              by_cases e : j = k
              · subst e; exact hL
              · exact H.out j hj (by omega))
            clear hL
            go_wp2_with fail
            go_round
            case rel => exact ⟨k + 1, by omega, by go_num, N⟩
            case measure => simp [intOf]; omega
        · have E := Lib.hid (HL.out hd (fun j hj => H.out j hj (by omega)))
          go_wp2_with fail
          go_ret
          exact ⟨by rw [E.out]; rfl, rfl⟩

theorem rnulls_calls {w : World} {f : Fd} {cs : List Value} (h : FdAt w f cs) (hk : f.k = 20 → f.kids ≠ []) :
    Calls Tryz.prog 52 #[.agg cs.toArray] w fun e w' => e = .returned (.bool (nullsB f)) ∧ Below w.heap.size w w' := by
  obtain ⟨p, cap, rfl, h2, h0, h3, h4, h5, h6⟩ := h.shape
  obtain ⟨_, _, e, hl, hm, hC⟩ := h2
  cases e
  unfold maxLen at hm
  obtain ⟨nb, hnb⟩ : ∃ b, b = nullsB f := ⟨_, rfl⟩
  rw [← hnb]
  unfold nullsB at hnb
  have HN := Lib.hid hnb
  clear hnb h
  by_cases k1 : f.k = 1
  · have E := Lib.hid (show nb = f.nl by rw [HN.out, k1]; rfl)
    rw [k1]
    go_enter Tryz.func52, Tryz.ntmps52
    go_wp2_with fail
    go_ret
    exact ⟨by rw [E.out]; rfl, (Below.refl _ w).alloc (Nat.le_refl _) _⟩
  · by_cases k18 : f.k = 18
    · have E := Lib.hid (show nb = !f.nl by rw [HN.out, k18]; rfl)
      rw [k18]
      go_enter Tryz.func52, Tryz.ntmps52
      go_wp2_with fail
      go_ret
      exact ⟨by rw [E.out]; rfl, (Below.refl _ w).alloc (Nat.le_refl _) _⟩
    · by_cases k20 : f.k = 20
      · cases hkd : f.kids with
        | nil => exact absurd hkd (hk k20)
        | cons g r =>
          have E := Lib.hid (show nb = (f.nl == g.nl) by rw [HN.out, k20]; simp [firstNl, hkd])
          rw [hkd] at hC hl
          obtain ⟨b, o, cs', e1, e2, e3⟩ := hC.get 0 (by simp)
          obtain ⟨p', cap', hcs', _⟩ := e3.shape
          have c1 := e2 1 (.bool g.nl) (by rw [hcs']; rfl)
          have e4 : o + (0 + 7 * 0) + 1 = o + 1 := by omega
          rw [e4] at c1
          have hblk := World.block_lt_of_cell? w _ c1
          simp only at hblk
          clear e2 e3 hcs' e4 hC hk hkd k1 k18
          subst e1
          rw [k20]
          clear k20
          generalize hg : (g :: r).length = n at *
          have hn : 0 < n := by rw [← hg]; simp
          clear hg
          go_enter Tryz.func52, Tryz.ntmps52
          go_wp2_with fail
          go_quiet (fail)
          go_wp2_with fail
          go_ret
          exact ⟨by rw [E.out]; rfl, below_drewN ((Below.refl _ w).alloc (Nat.le_refl _) _) _⟩
      · have E := Lib.hid (show nb = true by rw [HN.out]; simp [k1, k18, k20])
        generalize f.k = k at *
        clear hk
        have n1 : (k == 1) = false := by simpa using k1
        have n18 : (k == 18) = false := by simpa using k18
        have n20 : (k == 20) = false := by simpa using k20
        clear k1 k18 k20
        go_enter Tryz.func52, Tryz.ntmps52
        go_wp2_with fail
        go_ret
        exact ⟨by rw [E.out]; rfl, (Below.refl _ w).alloc (Nat.le_refl _) _⟩



set_option maxHeartbeats 1000000 in
theorem rshaped_14 (wd id ix : Int) (n : Nat) {p : Option Addr} {cap : Nat}  (hn : n ≤ 9223372036854775807) (hw : i64B wd) (hi : i64B id) (hx : i64B ix) (w : World) :
    Calls Tryz.prog 51 #[.agg #[.int .i64 14, .int .i64 wd, .int .i64 id, .int .i64 ix, .slice p n cap]] w fun e w' => e = .returned (.bool (fitsV 14 wd id ix n)) ∧ Below w.heap.size w w' := by
  unfold i64B at hw hi hx
  go_enter Tryz.func51, Tryz.ntmps51
  go_wp2_with fail
  go_quiet (fail)
  go_wp2
  all_goals go_ret
  all_goals refine ⟨ret_bool ?_, below_drewN ((Below.refl _ w).alloc (Nat.le_refl _) _) _⟩
  all_goals (rw [Bool.eq_iff_iff]; simp [fitsV, wideB, toldB, leastB, mostB]; omega)

set_option maxHeartbeats 1000000 in
theorem rshaped_15 (wd id ix : Int) (n : Nat) {p : Option Addr} {cap : Nat}  (hn : n ≤ 9223372036854775807) (hw : i64B wd) (hi : i64B id) (hx : i64B ix) (w : World) :
    Calls Tryz.prog 51 #[.agg #[.int .i64 15, .int .i64 wd, .int .i64 id, .int .i64 ix, .slice p n cap]] w fun e w' => e = .returned (.bool (fitsV 15 wd id ix n)) ∧ Below w.heap.size w w' := by
  unfold i64B at hw hi hx
  go_enter Tryz.func51, Tryz.ntmps51
  go_wp2_with fail
  go_quiet (fail)
  go_wp2
  all_goals go_ret
  all_goals refine ⟨ret_bool ?_, below_drewN ((Below.refl _ w).alloc (Nat.le_refl _) _) _⟩
  all_goals (rw [Bool.eq_iff_iff]; simp [fitsV, wideB, toldB, leastB, mostB]; omega)

set_option maxHeartbeats 1000000 in
theorem rshaped_16 (wd id ix : Int) (n : Nat) {p : Option Addr} {cap : Nat}  (hn : n ≤ 9223372036854775807) (hw : i64B wd) (hi : i64B id) (hx : i64B ix) (w : World) :
    Calls Tryz.prog 51 #[.agg #[.int .i64 16, .int .i64 wd, .int .i64 id, .int .i64 ix, .slice p n cap]] w fun e w' => e = .returned (.bool (fitsV 16 wd id ix n)) ∧ Below w.heap.size w w' := by
  unfold i64B at hw hi hx
  go_enter Tryz.func51, Tryz.ntmps51
  go_wp2_with fail
  go_quiet (fail)
  go_wp2
  all_goals go_ret
  all_goals refine ⟨ret_bool ?_, below_drewN ((Below.refl _ w).alloc (Nat.le_refl _) _) _⟩
  all_goals (rw [Bool.eq_iff_iff]; simp [fitsV, wideB, toldB, leastB, mostB]; omega)

set_option maxHeartbeats 1000000 in
theorem rshaped_17 (wd id ix : Int) (n : Nat) {p : Option Addr} {cap : Nat}  (hn : n ≤ 9223372036854775807) (hw : i64B wd) (hi : i64B id) (hx : i64B ix) (w : World) :
    Calls Tryz.prog 51 #[.agg #[.int .i64 17, .int .i64 wd, .int .i64 id, .int .i64 ix, .slice p n cap]] w fun e w' => e = .returned (.bool (fitsV 17 wd id ix n)) ∧ Below w.heap.size w w' := by
  unfold i64B at hw hi hx
  go_enter Tryz.func51, Tryz.ntmps51
  go_wp2_with fail
  go_quiet (fail)
  go_wp2
  all_goals go_ret
  all_goals refine ⟨ret_bool ?_, below_drewN ((Below.refl _ w).alloc (Nat.le_refl _) _) _⟩
  all_goals (rw [Bool.eq_iff_iff]; simp [fitsV, wideB, toldB, leastB, mostB]; omega)

set_option maxHeartbeats 1000000 in
theorem rshaped_18 (wd id ix : Int) (n : Nat) {p : Option Addr} {cap : Nat}  (hn : n ≤ 9223372036854775807) (hw : i64B wd) (hi : i64B id) (hx : i64B ix) (w : World) :
    Calls Tryz.prog 51 #[.agg #[.int .i64 18, .int .i64 wd, .int .i64 id, .int .i64 ix, .slice p n cap]] w fun e w' => e = .returned (.bool (fitsV 18 wd id ix n)) ∧ Below w.heap.size w w' := by
  unfold i64B at hw hi hx
  go_enter Tryz.func51, Tryz.ntmps51
  go_wp2_with fail
  go_quiet (fail)
  go_wp2
  all_goals go_ret
  all_goals refine ⟨ret_bool ?_, below_drewN ((Below.refl _ w).alloc (Nat.le_refl _) _) _⟩
  all_goals (rw [Bool.eq_iff_iff]; simp [fitsV, wideB, toldB, leastB, mostB]; omega)

set_option maxHeartbeats 1000000 in
theorem rshaped_19 (wd id ix : Int) (n : Nat) {p : Option Addr} {cap : Nat}  (hn : n ≤ 9223372036854775807) (hw : i64B wd) (hi : i64B id) (hx : i64B ix) (w : World) :
    Calls Tryz.prog 51 #[.agg #[.int .i64 19, .int .i64 wd, .int .i64 id, .int .i64 ix, .slice p n cap]] w fun e w' => e = .returned (.bool (fitsV 19 wd id ix n)) ∧ Below w.heap.size w w' := by
  unfold i64B at hw hi hx
  go_enter Tryz.func51, Tryz.ntmps51
  go_wp2_with fail
  go_quiet (fail)
  go_wp2
  all_goals go_ret
  all_goals refine ⟨ret_bool ?_, below_drewN ((Below.refl _ w).alloc (Nat.le_refl _) _) _⟩
  all_goals (rw [Bool.eq_iff_iff]; simp [fitsV, wideB, toldB, leastB, mostB]; omega)

set_option maxHeartbeats 1000000 in
theorem rshaped_20 (wd id ix : Int) (n : Nat) {p : Option Addr} {cap : Nat}  (hn : n ≤ 9223372036854775807) (hw : i64B wd) (hi : i64B id) (hx : i64B ix) (w : World) :
    Calls Tryz.prog 51 #[.agg #[.int .i64 20, .int .i64 wd, .int .i64 id, .int .i64 ix, .slice p n cap]] w fun e w' => e = .returned (.bool (fitsV 20 wd id ix n)) ∧ Below w.heap.size w w' := by
  unfold i64B at hw hi hx
  go_enter Tryz.func51, Tryz.ntmps51
  go_wp2_with fail
  go_quiet (fail)
  go_wp2
  all_goals go_ret
  all_goals refine ⟨ret_bool ?_, below_drewN ((Below.refl _ w).alloc (Nat.le_refl _) _) _⟩
  all_goals (rw [Bool.eq_iff_iff]; simp [fitsV, wideB, toldB, leastB, mostB]; omega)

set_option maxHeartbeats 1000000 in
theorem rshaped_other (k : Int) (wd id ix : Int) (n : Nat) {p : Option Addr} {cap : Nat} (h14 : ¬ k = 14) (h15 : ¬ k = 15) (h16 : ¬ k = 16) (h17 : ¬ k = 17) (h18 : ¬ k = 18) (h19 : ¬ k = 19) (h20 : ¬ k = 20) (hk : i64B k) (hn : n ≤ 9223372036854775807) (hw : i64B wd) (hi : i64B id) (hx : i64B ix) (w : World) :
    Calls Tryz.prog 51 #[.agg #[.int .i64 k, .int .i64 wd, .int .i64 id, .int .i64 ix, .slice p n cap]] w fun e w' => e = .returned (.bool (fitsV k wd id ix n)) ∧ Below w.heap.size w w' := by
  unfold i64B at hw hi hx
  have b14 : (k == 14) = false := by simpa using h14
  have b15 : (k == 15) = false := by simpa using h15
  have b16 : (k == 16) = false := by simpa using h16
  have b17 : (k == 17) = false := by simpa using h17
  have b18 : (k == 18) = false := by simpa using h18
  have b19 : (k == 19) = false := by simpa using h19
  have b20 : (k == 20) = false := by simpa using h20
  unfold i64B at hk
  have H14 := Lib.hid h14
  have H15 := Lib.hid h15
  have H16 := Lib.hid h16
  have H17 := Lib.hid h17
  have H18 := Lib.hid h18
  have H19 := Lib.hid h19
  have H20 := Lib.hid h20
  clear h14 h15 h16 h17 h18 h19 h20
  go_enter Tryz.func51, Tryz.ntmps51
  go_wp2_with fail
  go_quiet (fail)
  go_wp2
  all_goals go_ret
  all_goals refine ⟨ret_bool ?_, below_drewN ((Below.refl _ w).alloc (Nat.le_refl _) _) _⟩
  all_goals (have h14 := H14.out; have h15 := H15.out; have h16 := H16.out; have h17 := H17.out; have h18 := H18.out; have h19 := H19.out; have h20 := H20.out; rw [Bool.eq_iff_iff]; simp [fitsV, wideB, toldB, leastB, mostB, h14, h15, h16, h17, h18, h19, h20]; omega)

/-- Is a type just what its kind says (the reference)? -/
theorem rshaped_calls {w : World} {f : Fd} {p : Option Addr} {cap : Nat} (h : FdAt w f [.string f.nm, .bool f.nl, .int .i64 f.k, .int .i64 f.wd, .int .i64 f.id, .int .i64 f.ix, .slice p f.kids.length cap]) :
    Calls Tryz.prog 51 #[.agg #[.int .i64 f.k, .int .i64 f.wd, .int .i64 f.id, .int .i64 f.ix, .slice p f.kids.length cap]] w fun e w' => e = .returned (.bool (fitsB f)) ∧ Below w.heap.size w w' := by
  obtain ⟨p', cap', h1, h2, h0, h3, h4, h5, h6⟩ := h.shape
  obtain ⟨_, _, e, hl, hm, _⟩ := h2
  cases e
  unfold maxLen at hm
  have hn : f.kids.length ≤ 9223372036854775807 := by omega
  rw [fitsB_eq]
  by_cases k14 : f.k = 14
  · rw [k14]; exact rshaped_14 _ _ _ _ hn h4 h5 h6 w
  by_cases k15 : f.k = 15
  · rw [k15]; exact rshaped_15 _ _ _ _ hn h4 h5 h6 w
  by_cases k16 : f.k = 16
  · rw [k16]; exact rshaped_16 _ _ _ _ hn h4 h5 h6 w
  by_cases k17 : f.k = 17
  · rw [k17]; exact rshaped_17 _ _ _ _ hn h4 h5 h6 w
  by_cases k18 : f.k = 18
  · rw [k18]; exact rshaped_18 _ _ _ _ hn h4 h5 h6 w
  by_cases k19 : f.k = 19
  · rw [k19]; exact rshaped_19 _ _ _ _ hn h4 h5 h6 w
  by_cases k20 : f.k = 20
  · rw [k20]; exact rshaped_20 _ _ _ _ hn h4 h5 h6 w
  exact rshaped_other _ _ _ _ _ k14 k15 k16 k17 k18 k19 k20 h3 hn h4 h5 h6 w

end Go.Fld
