import Derived.Test.YtkhpgcbjmopkfaaGreatDoorFc
set_option linter.unusedVariables false
set_option maxRecDepth 100000
/-!
  NULLABLE. No conditions.
-/
namespace Go.Fld
open Go Go.RowKit Go.Proofs Go.ChangeShapes Go.WideShapes Go.ChangeAt

theorem below_drewN {n : Nat} {w w' : World} (h : Below n w w') (k : Nat) : Below n w (w'.drewN k) := ⟨h.os, h.tape, h.output, h.size, h.block⟩
theorem below_drew {n : Nat} {w w' : World} (h : Below n w w') : Below n w w'.drew := ⟨h.os, h.tape, h.output, h.size, h.block⟩

theorem nulls_calls {w : World} {f : Fd} {cs : List Value} (h : FdAt w f cs) (hk : f.k = 20 → f.kids ≠ []) :
    Calls Tryz.prog 49 #[.agg cs.toArray] w fun e w' => e = .returned (.bool (nullsB f)) ∧ Below w.heap.size w w' := by
  obtain ⟨p, cap, rfl, h2, h0, h3, h4, h5, h6⟩ := h.shape
  obtain ⟨_, _, e, hl, hm, hC⟩ := h2
  cases e
  unfold maxLen at hm
  obtain ⟨nb, hnb⟩ : ∃ b, b = nullsB f := ⟨_, rfl⟩
  rw [← hnb]
  unfold nullsB at hnb
  have HN := Lib.hid hnb
  clear hnb h
  by_cases k1 : f.k = 1
  · have E := Lib.hid (show nb = f.nl by rw [HN.out, k1]; rfl)
    rw [k1]
    go_enter Tryz.func49, Tryz.ntmps49
    go_wp2_with fail
    go_ret
    exact ⟨by rw [E.out]; rfl, (Below.refl _ w).alloc (Nat.le_refl _) _⟩
  · by_cases k18 : f.k = 18
    · have E := Lib.hid (show nb = !f.nl by rw [HN.out, k18]; rfl)
      rw [k18]
      go_enter Tryz.func49, Tryz.ntmps49
      go_wp2_with fail
      go_ret
      exact ⟨by rw [E.out]; rfl, (Below.refl _ w).alloc (Nat.le_refl _) _⟩
    · by_cases k20 : f.k = 20
      · cases hkd : f.kids with
        | nil => exact absurd hkd (hk k20)
        | cons g r =>
          have E := Lib.hid (show nb = (f.nl == g.nl) by rw [HN.out, k20]; simp [firstNl, hkd])
          rw [hkd] at hC hl
          obtain ⟨b, o, cs', e1, e2, e3⟩ := hC.get 0 (by simp)
          obtain ⟨p', cap', hcs', _⟩ := e3.shape
          have c1 := e2 1 (.bool g.nl) (by rw [hcs']; rfl)
          have e4 : o + (0 + 7 * 0) + 1 = o + 1 := by omega
          rw [e4] at c1
          have hblk := World.block_lt_of_cell? w _ c1
          simp only at hblk
          clear e2 e3 hcs' e4 hC hk hkd k1 k18
          subst e1
          rw [k20]
          clear k20
          generalize hg : (g :: r).length = n at *
          have hn : 0 < n := by rw [← hg]; simp
          clear hg
          go_enter Tryz.func49, Tryz.ntmps49
          go_wp2_with fail
          go_quiet (fail)
          go_wp2_with fail
          go_ret
          exact ⟨by rw [E.out]; rfl, below_drewN ((Below.refl _ w).alloc (Nat.le_refl _) _) _⟩
      · have E := Lib.hid (show nb = true by rw [HN.out]; simp [k1, k18, k20])
        generalize f.k = k at *
        clear hk
        have n1 : (k == 1) = false := by simpa using k1
        have n18 : (k == 18) = false := by simpa using k18
        have n20 : (k == 20) = false := by simpa using k20
        clear k1 k18 k20
        go_enter Tryz.func49, Tryz.ntmps49
        go_wp2_with fail
        go_ret
        exact ⟨by rw [E.out]; rfl, (Below.refl _ w).alloc (Nat.le_refl _) _⟩

/-- Has a field this name? -/
theorem same_name {w : World} {f : Fd} {cs : List Value} (h : FdAt w f cs) (s : ByteArray) (b o : Nat) (hs : w.cell? ⟨b, o + 2, none⟩ = some (.string s)) :
    Calls Tryz.prog 47 #[.agg cs.toArray, .pointer (some ⟨b, o, none⟩)] w fun e w' => e = .returned (.bool (f.nm.toList == s.toList)) ∧ Below w.heap.size w w' := by
  obtain ⟨p, cap, rfl, _⟩ := h.shape
  have hblk := World.block_lt_of_cell? w _ hs
  simp only at hblk
  clear h
  go_enter Tryz.func47, Tryz.ntmps47
  go_wp2_with fail
  go_ret
  exact ⟨rfl, (Below.refl _ w).alloc (Nat.le_refl _) _⟩

theorem index_calls {w : World} {l : List Fd} {v : Value} (h : FdsAt w l v) (s : ByteArray) (b o : Nat) (hs : w.cell? ⟨b, o + 2, none⟩ = some (.string s)) :
    Calls Tryz.prog 56 #[v, .func (.func 47) #[] #[.pointer (some ⟨b, o, none⟩)]] w fun e w' => (∃ i : Int, e = .returned (.int .i64 i) ∧ -1 ≤ i ∧ i ≤ l.length ∧ decide (0 ≤ i) = l.any fun g => g.nm.toList == s.toList) ∧ Below w.heap.size w w' := by
  obtain ⟨p, cap, rfl, hl, hm, hC⟩ := h
  unfold maxLen at hm
  have HC := Lib.hid hC
  have HS := Lib.hid hs
  clear hC hs
  go_enter Tryz.func56, Tryz.ntmps56
  go_wp2_with fail
  go_loopw [8] (fun i wr => ∃ k : Nat, k ≤ l.length ∧ i = .int .i64 k ∧ Below w.heap.size w wr ∧ Hid (∀ j (hj : j < l.length), j < k → (l[j].nm.toList == s.toList) = false)) (fun i _ => l.length - (intOf i).toNat)
  case atStart => exact ⟨0, by omega, rfl, Below.refl _ w, Lib.hid (fun j hj h => absurd h (Nat.not_lt_zero _))⟩
  case round =>
    obtain ⟨k, hk, rfl, hb, H⟩ := hrel
    by_cases hlt : k < l.length
    · obtain ⟨b', o', q, cap', rfl, e3, c0, c1, c2, c3, c4, c5, c6⟩ := (HC.out.below hb).seven k hlt
      have hS := HS.out
      have hS := cell_below hb hS
      have Next : Hid ((l[k].nm.toList == s.toList) = false → ∀ j (hj : j < l.length), j < k + 1 → (l[j].nm.toList == s.toList) = false) := Lib.hid (fun hf j hj hjk => by
        by_cases e : j = k
        · subst e; exact hf
        · exact H.out j hj (by omega))
      have Hit : Hid ((l[k].nm.toList == s.toList) = true → (l.any fun g => g.nm.toList == s.toList) = true) := Lib.hid (fun ht => List.any_eq_true.2 ⟨l[k], List.getElem_mem hlt, ht⟩)
      have E3 := Lib.hid e3
      clear e3
      generalize l[k] = f at *
      go_wp2_with fail
      refine (same_name E3.out s b o hS).mono ?_; rintro e w1 ⟨rfl, hb1⟩
      have hb2 : Below w.heap.size w w1 := hb.trans (hb1.mono hb.size)
      clear c0 c1 c2 c3 c4 c5 c6 hS
      generalize hq : (f.nm.toList == s.toList) = t at *
      cases t with
      | true =>
        go_wp2_with fail
        go_ret
        exact ⟨⟨k, rfl, by omega, by omega, by rw [Hit.out trivial]; simp⟩, hb2⟩
      | false =>
        have HN := Lib.hid (Next.out rfl)
        go_wp2_with fail
        go_round
        case rel => exact ⟨k + 1, by omega, by go_num, hb2, HN⟩
        case measure => simp [intOf]; omega
    · go_wp2_with fail
      go_ret
      refine ⟨⟨-1, rfl, by omega, by omega, ?_⟩, hb⟩
      have : (l.any fun g => g.nm.toList == s.toList) = false := by
        rw [List.any_eq_false]
        intro g hg
        obtain ⟨j, hj, rfl⟩ := List.getElem_of_mem hg
        rw [H.out j hj (by omega)]
        simp
      rw [this]
      rfl

theorem contains_calls {w : World} {l : List Fd} {v : Value} (h : FdsAt w l v) (s : ByteArray) (b o : Nat) (hs : w.cell? ⟨b, o + 2, none⟩ = some (.string s)) :
    Calls Tryz.prog 46 #[v, .func (.func 47) #[] #[.pointer (some ⟨b, o, none⟩)]] w fun e w' => e = .returned (.bool (l.any fun g => g.nm.toList == s.toList)) ∧ Below w.heap.size w w' := by
  have h' := h
  obtain ⟨p, cap, rfl, hl, hm, hC⟩ := h'
  unfold maxLen at hm
  have HF := Lib.hid h
  have HS := Lib.hid hs
  clear hC hs h
  go_enter Tryz.func46, Tryz.ntmps46
  go_wp2_with fail
  refine (index_calls HF.out s b o HS.out).mono ?_; rintro e w1 ⟨⟨i, rfl, i1, i2, hi⟩, hb⟩
  have HI := Lib.hid hi
  clear hi
  go_wp2_with fail
  go_ret
  exact ⟨by rw [← HI.out]; rfl, hb⟩
end Go.Fld
