import Derived.Test.YtajaonnpekdklaaInkA
set_option linter.unusedVariables false
set_option maxRecDepth 100000
namespace Go.Proofs.Ytajaonnpekdklaa.Ink
open Go.ChangeShapes Go.WideShapes Go.ChangeAt Go.RowKit Mem

theorem rwide_calls (x : Int) (w : World) : Calls Try.prog 43 #[.int .i64 x] w fun e w' => e = .returned (.bool (wideB x)) ∧ w = w' := by
  go_enter Try.func43, Try.ntmps43
  go_wp2
  all_goals go_ret
  all_goals exact ⟨by simp [wideB, *], rfl⟩

theorem lay_calls {L : Nat → Nat} {c : Nat} {w : World} {kb : Nat} {bs : List UInt8} {most : Int} (h : InkAt 84 L c w kb bs most) (hb : (bs.length : Int) ≤ most) (hm : most ≤ 16777216) (s : ByteArray) (hs : s.size ≤ maxLen) :
    Calls Try.prog 44 #[.pointer (some ⟨kb, 0, none⟩), .string s] w fun e w' => e = .returned (.int .i64 (textE bs.length most s.size)) ∧ Left 84 L c w kb (textB bs most s.data.toList) most w' := by
  unfold maxLen at hs
  have hsl : s.data.toList.length = s.size := by simp
  have HI := Lib.hid h
  obtain ⟨v, k1, k2, k3, k4⟩ := h
  obtain ⟨p, cap, hv, _⟩ := ownsRow_shape k3.1
  subst hv
  have c0 : w.cell? ⟨kb, 0, none⟩ = some (.slice p bs.length cap) := by rw [cell_of_heap k1]; rfl
  have c1 : w.cell? ⟨kb, 1, none⟩ = some (.int .i64 most) := by rw [cell_of_heap k1]; rfl
  by_cases hr : (s.size : Int) ≤ most - bs.length
  · have hE : textE bs.length most s.size = 0 := by rw [textE, if_pos hr]
    have HE := Lib.hid hE
    have hB : textB bs most s.data.toList = bs ++ s.data.toList := by rw [textB, hsl, HE.out]; rfl
    have HB := Lib.hid hB
    clear hE hB
    go_enter Try.func44, Try.ntmps44
    go_wp2_with fail
    go_quiet (fail)
    go_wp2_with (at_builtin; refine wpList_append rfl (.tmp 22) (.tmp 23) 35 9 rfl 5 Try.underlying35 infoByte rfl (by decide) _ bs.length (bs.map byt) rfl k3.1 _ s.size (byteCells s) rfl (Src.ofString _ Try.underlying9 s) (by unfold maxLen; omega) (by omega) ?_)
    intro v2 w2 hown2 hg2 hblk _
    obtain ⟨d0, d1⟩ := InkAt.behind (w1 := w.drewN _) k1 k4 (below_drewN w _) hg2
    obtain ⟨p2, cap2, hv2, _⟩ := ownsRow_shape hown2
    subst hv2
    go_wp2_with fail
    go_ret
    have hown3 : w2.ownsRow 0 5 1 (.slice p2 (bs.length + s.size) cap2) (bs ++ s.data.toList).length ((bs ++ s.data.toList).map byt) := by
      have := hown2
      rw [List.map_append, List.length_append, hsl]
      exact this
    obtain ⟨L'', st', hk'⟩ := InkAt.grown (Step.refl _ L w) k1 k2 k3 k4 (below_drewN w _) hown3 hg2 (by simpa using hblk)
    exact ⟨by rw [HE.out]; rfl, L'', st', by rw [HB.out]; exact hk'⟩
  · have hE : textE bs.length most s.size = 4 := by rw [textE, if_neg hr]
    have HE := Lib.hid hE
    have hB : textB bs most s.data.toList = bs := by rw [textB, hsl, HE.out]; rfl
    have HB := Lib.hid hB
    clear hE hB
    go_enter Try.func44, Try.ntmps44
    go_wp2_with fail
    go_quiet (fail)
    go_wp2_with fail
    go_ret
    exact ⟨by rw [HE.out]; rfl, L, (Step.refl _ _ _).drewN _, by rw [HB.out]; exact HI.out⟩

theorem rtext_calls {L : Nat → Nat} {c : Nat} {w : World} {kb : Nat} {bs : List UInt8} {most : Int} (h : InkAt 84 L c w kb bs most) (hb : (bs.length : Int) ≤ most) (hm : most ≤ 16777216) (s : ByteArray) (hs : s.size ≤ maxLen) :
    Calls Try.prog 19 #[.pointer (some ⟨kb, 0, none⟩), .string s] w fun e w' => e = .returned (.int .i64 (textE bs.length most s.size)) ∧ Left 84 L c w kb (textB bs most s.data.toList) most w' := by
  go_enter Try.func19, Try.ntmps19
  go_wp2_with fail
  refine (lay_calls h hb hm s hs).mono ?_; rintro e w1 ⟨rfl, hl⟩
  go_wp2_with fail
  go_ret
  exact ⟨rfl, hl⟩

theorem rnumber_calls {L : Nat → Nat} {c : Nat} {w : World} {kb : Nat} {bs : List UInt8} {most : Int} (hI : InkAt 84 L c w kb bs most) (hb : (bs.length : Int) ≤ most) (hm : most ≤ 16777216) (x width : Int) (hx : 0 ≤ x) (hx2 : x ≤ 18446744073709551615) :
    Calls Try.prog 17 #[.pointer (some ⟨kb, 0, none⟩), .int .u64 x, .int .i64 width] w fun e w' => e = .returned (.int .i64 (numberE bs.length most width)) ∧ Left 84 L c w kb (numberB bs most x width) most w' := by
  by_cases hw : wideB width = true
  · have hw0 : 0 ≤ width ∧ width ≤ 8 := by
      simp [wideB] at hw; omega
    obtain ⟨wd, rfl⟩ := Int.eq_ofNat_of_zero_le hw0.1
    go_enter Try.func17, Try.ntmps17
    go_wp2_with fail
    refine (rwide_calls _ _).mono ?_; rintro e w1 ⟨rfl, rfl⟩
    go_wp2_with fail
    go_loopw [1, 8, 9] (fun y v i wr => ∃ (j : Nat) (bj : List UInt8), j ≤ wd ∧ i = .int .i64 j ∧ y = .int .u64 (x / 256 ^ j) ∧ bj = leB x j ∧ Below w.heap.size w wr ∧ wr.ownsRow 0 5 1 v bj.length (bj.map byt) ∧ (∀ g, v.ownBlock = some g → w.heap.size ≤ g)) (fun _ _ i _ => wd - (intOf i).toNat)
    case atStart => exact ⟨0, [], by omega, rfl, by simp, by simp [leB], Below.refl _ _, World.ownsRow_nil _ _ _ _, fun g h => by cases h⟩
    case round =>
      obtain ⟨j, bj, hj, rfl, rfl, hbj, bel, hown, hnew⟩ := hrel
      have hl : bj.length ≤ 8 := by rw [hbj]; simp [leB_length]; omega
      have Hbj := Lib.hid hbj
      clear hbj
      have hy : 0 ≤ x / 256 ^ j ∧ x / 256 ^ j ≤ 18446744073709551615 := div_pow_bound hx hx2 j
      obtain ⟨p, cap, hv, _⟩ := ownsRow_shape hown
      subst hv
      by_cases hlt : j < wd
      · go_wp2_with (at_builtin; refine wpList_append rfl (.tmp 19) (.tmp 22) 35 35 rfl 5 Try.underlying35 infoByte rfl (by decide) _ bj.length (bj.map byt) rfl (hown.alloc _) _ 1 [.int .u8 (x / 256 ^ j % 256)] rfl (Src.fresh wr Try.underlying35 1 1 [.int .u8 (x / 256 ^ j % 256)] rfl (by simp [Value.oneCell'])) (by unfold maxLen; omega) (by omega) ?_)
        intro v2 w2 hown2 hg2 hblk _
        obtain ⟨p2, cap2, hv2, _⟩ := ownsRow_shape hown2
        subst hv2
        go_wp2_with fail
        have hown3 : w2.ownsRow 0 5 1 (.slice p2 (bj.length + 1) cap2) (bj ++ [lowByte (x / 256 ^ j)]).length ((bj ++ [lowByte (x / 256 ^ j)]).map byt) := by
          have := hown2
          rw [← lowByte_emod _] at this
          simpa using this
        have bel2 : Below w.heap.size w w2 := (bel.alloc bel.size _).grown hg2 (by have := bel.size; simp; omega) (by intro k hk; exact hnew k hk)
        have hnew2 : ∀ g, (Value.slice p2 (bj.length + 1) cap2).ownBlock = some g → w.heap.size ≤ g := by
          intro g hg
          rcases hblk with h | h
          · exact hnew g (h ▸ hg)
          · rw [h] at hg; cases hg; have := bel.size; simp; omega
        go_roundw
        case rel => exact ⟨j + 1, _, by omega, by go_num, by rw [div_pow_succ], by rw [Hbj.out]; simp [leB], bel2, hown3, hnew2⟩
        case measure => simp [intOf]; omega
      · have hjw : j = wd := by omega
        subst hjw
        have hst : Step (· = c) L w (ext L w.heap.size c) wr := Step.of_below bel _ c
        have hrd : Rd (fun _ => c) c wr 1 (.slice p bj.length cap) bj.length (bj.map byt) := Own.rd ⟨hown, fun _ _ => rfl⟩
        have hcv := run_toString (P := Try.prog) hrd (src := 35) (e := 5) (dst := 9) Try.underlying35 Try.underlying5 Try.underlying9
        have hne : ∀ k, L k = c → k < w.heap.size → wr.heap[k]? = w.heap[k]? := fun k _ hk => bel.block k hk
        have hI' : InkAt 84 (ext L w.heap.size c) c wr kb bs most := by
          have := hI.step (Step.of_below (L := L) bel (fun _ => False) c) (by simp)
          exact this
        have hln : (bj.length : Int) = j := by rw [Hbj.out]; simp [leB_length]
        have HLN := Lib.hid hln
        clear hln hrd hne
        go_wp2_with fail
        refine (lay_calls hI' hb hm _ (by show bj.toArray.size ≤ maxLen; unfold maxLen; simp; omega)).mono ?_; rintro e w1 ⟨rfl, L2, st2, hk2⟩
        go_wp2_with fail
        go_ret
        have e1 : (⟨bj.toArray⟩ : ByteArray).size = j := by have := HLN.out; show bj.toArray.size = j; simp; omega
        refine ⟨?_, L2, hst.trans st2, ?_⟩
        · have hEE : textE bs.length most bj.length = numberE bs.length most j := by
            have := HLN.out
            rw [numberE, if_pos hw, textE, show bj.length = j from by omega]
          show Ending.returned (.int .i64 (textE bs.length most bj.length)) = _
          rw [hEE]
        · have e2 : textB bs most (⟨bj.toArray⟩ : ByteArray).data.toList = numberB bs most x j := by
            show textB bs most bj = _
            have := HLN.out
            rw [textB, numberB, numberE, if_pos hw, textE, show bj.length = j from by omega, Hbj.out]
            rfl
          rw [← e2]; exact hk2
  · have hw' : wideB width = false := by simpa using hw
    have hE : numberE bs.length most width = 1 := by rw [numberE, if_neg hw]
    have HE := Lib.hid hE
    clear hE
    go_enter Try.func17, Try.ntmps17
    go_wp2_with fail
    refine (rwide_calls _ _).mono ?_; rintro e w1 ⟨rfl, rfl⟩
    go_wp2_with fail
    go_ret
    exact ⟨by rw [HE.out]; rfl, L, Step.refl _ _ _, by rw [numberB, HE.out]; exact hI⟩

theorem rfill_calls {L : Nat → Nat} {c : Nat} {w : World} {kb : Nat} {bs : List UInt8} {most : Int} (hI : InkAt 84 L c w kb bs most) (hb : (bs.length : Int) ≤ most) (hm : most ≤ 16777216) (n : Int) (b : UInt8) :
    Calls Try.prog 21 #[.pointer (some ⟨kb, 0, none⟩), .int .i64 n, .int .u8 b.toNat] w fun e w' => e = .returned (.int .i64 (fillE bs.length most n)) ∧ Left 84 L c w kb (fillB bs most n b) most w' := by
  by_cases q0 : n < 0
  · have hE : fillE bs.length most n = 1 := by rw [fillE, if_pos q0]
    have HE := Lib.hid hE
    have hB : fillB bs most n b = bs := by rw [fillB, HE.out]; rfl
    have HB := Lib.hid hB
    clear hE hB
    go_enter Try.func21, Try.ntmps21
    go_wp2_with fail
    go_ret
    exact ⟨by rw [HE.out]; rfl, L, Step.refl _ _ _, by rw [HB.out]; exact hI⟩
  · obtain ⟨m, rfl⟩ := Int.eq_ofNat_of_zero_le (Int.not_lt.1 q0)
    have HI := Lib.hid hI
    obtain ⟨v0, k1, k2, k3, k4⟩ := hI
    obtain ⟨p0, cap0, hv0, _⟩ := ownsRow_shape k3.1
    subst hv0
    have c0 : w.cell? ⟨kb, 0, none⟩ = some (.slice p0 bs.length cap0) := by rw [cell_of_heap k1]; rfl
    have c1 : w.cell? ⟨kb, 1, none⟩ = some (.int .i64 most) := by rw [cell_of_heap k1]; rfl
    clear k1 k2 k3 k4
    by_cases hr : (m : Int) ≤ most - bs.length
    · have hE : fillE bs.length most m = 0 := by rw [fillE, if_neg q0, if_pos hr]
      have HE := Lib.hid hE
      have hB : fillB bs most m b = bs ++ List.replicate m b := by rw [fillB, HE.out]; rfl
      have HB := Lib.hid hB
      clear hE hB
      go_enter Try.func21, Try.ntmps21
      go_wp2_with fail
      go_quiet (fail)
      go_wp2_with fail
      go_loopw [7] (fun i wr => ∃ (j : Nat) (L' : Nat → Nat) (bj : List UInt8), j ≤ m ∧ i = .int .i64 j ∧ bj = bs ++ List.replicate j b ∧ Step (· = c) L w L' wr ∧ InkAt 84 L' c wr kb bj most) (fun i _ => m - (intOf i).toNat)
      case atStart => exact ⟨0, L, bs, by omega, rfl, by simp, (Step.refl _ _ _).drewN _, HI.out⟩
      case round =>
        obtain ⟨j, L', bj, hj, rfl, hbj, st, hk⟩ := hrel
        have hl : bj.length ≤ 16777216 + 8 := by rw [hbj]; simp; omega
        have Hbj := Lib.hid hbj
        clear hbj
        by_cases hlt : j < m
        · obtain ⟨v, k1, k2, k3, k4⟩ := hk
          obtain ⟨p, cap, hv, _⟩ := ownsRow_shape k3.1
          subst hv
          have c0 : wr.cell? ⟨kb, 0, none⟩ = some (.slice p bj.length cap) := by rw [cell_of_heap k1]; rfl
          go_wp2_with (at_builtin; refine wpList_append rfl (.tmp 31) (.tmp 33) 35 35 rfl 5 Try.underlying35 infoByte rfl (by decide) _ bj.length (bj.map byt) rfl (k3.1.alloc _) _ 1 [.int .u8 b.toNat] rfl (Src.fresh wr Try.underlying35 1 1 [.int .u8 b.toNat] rfl (by simp [Value.oneCell'])) (by unfold maxLen; omega) (by omega) ?_)
          intro v2 w2 hown2 hg2 hblk _
          obtain ⟨d0, d1⟩ := InkAt.behind k1 k4 (below_alloc wr _) hg2
          obtain ⟨p2, cap2, hv2, _⟩ := ownsRow_shape hown2
          subst hv2
          go_wp2_with fail
          have hown3 : w2.ownsRow 0 5 1 (.slice p2 (bj.length + 1) cap2) (bj ++ [b]).length ((bj ++ [b]).map byt) := by
            simpa [byt] using hown2
          obtain ⟨L'', st', hk'⟩ := InkAt.grown st k1 k2 k3 k4 (below_alloc wr _) hown3 hg2 (by simpa using hblk)
          go_roundw
          case rel => exact ⟨j + 1, L'', _, by omega, by go_num, by rw [Hbj.out, List.append_assoc, ← List.replicate_succ'], st', hk'⟩
          case measure => simp [intOf]; omega
        · go_wp2_with fail
          go_ret
          have hjw : j = m := by omega
          subst hjw
          exact ⟨by rw [HE.out]; rfl, L', st, by rw [HB.out, ← Hbj.out]; exact hk⟩
    · have hE : fillE bs.length most m = 4 := by rw [fillE, if_neg q0, if_neg hr]
      have HE := Lib.hid hE
      have hB : fillB bs most m b = bs := by rw [fillB, HE.out]; rfl
      have HB := Lib.hid hB
      clear hE hB
      go_enter Try.func21, Try.ntmps21
      go_wp2_with fail
      go_quiet (fail)
      go_wp2_with fail
      go_ret
      exact ⟨by rw [HE.out]; rfl, L, (Step.refl _ _ _).drewN _, by rw [HB.out]; exact HI.out⟩

theorem padN_sum (len : Nat) (to : Int) : ((len : Int) + padN len to) % to = 0 := by
  have h1 := Int.emod_def (-((len : Int) % to)) to
  have h2 := Int.mul_ediv_add_emod (len : Int) to
  apply Int.emod_eq_zero_of_dvd
  refine ⟨(len : Int) / to - -((len : Int) % to) / to, ?_⟩
  unfold padN
  rw [Int.mul_sub]
  omega
theorem padN_eq {len n : Nat} {to : Int} (h0 : 0 ≤ padN len to) (h1 : padN len to < to) (hn : (n : Int) ≤ padN len to) (hz : ((len : Int) + n) % to = 0) : padN len to = n := by
  have e : ((n : Int) + len) % to = (padN len to + len) % to := by rw [Int.add_comm, hz, Int.add_comm, padN_sum]
  rw [Int.emod_add_cancel_right, Int.emod_eq_of_lt (by omega) (by omega), Int.emod_eq_of_lt h0 h1] at e
  exact e.symm

theorem rpad_calls {L : Nat → Nat} {c : Nat} {w : World} {kb : Nat} {bs : List UInt8} {most : Int} (hI : InkAt 84 L c w kb bs most) (hb : (bs.length : Int) ≤ most) (hm : most ≤ 16777216) (to : Int) :
    Calls Try.prog 23 #[.pointer (some ⟨kb, 0, none⟩), .int .i64 to] w fun e w' => e = .returned (.int .i64 (padE bs.length most to)) ∧ Left 84 L c w kb (padB bs most to) most w' := by
  by_cases ht : to < 1 ∨ 64 < to
  · have HT := Lib.hid ht
    by_cases q1 : to < 1
    · clear ht
      go_enter Try.func23, Try.ntmps23
      go_wp2_with fail
      go_ret
      refine ⟨by rw [padE, if_pos HT.out]; rfl, L, Step.refl _ _ _, by rw [padB, if_pos HT.out]; exact hI⟩
    · have q2 : 64 < to := by omega
      clear ht
      go_enter Try.func23, Try.ntmps23
      go_wp2_with fail
      go_ret
      refine ⟨by rw [padE, if_pos HT.out]; rfl, L, Step.refl _ _ _, by rw [padB, if_pos HT.out]; exact hI⟩
  · have HT := Lib.hid ht
    have q1 : 1 ≤ to := by omega
    have q2 : to ≤ 64 := by omega
    clear ht
    have HI := Lib.hid hI
    obtain ⟨v, k1, k2, k3, k4⟩ := hI
    obtain ⟨p, cap, hv, _⟩ := ownsRow_shape k3.1
    subst hv
    have c0 : w.cell? ⟨kb, 0, none⟩ = some (.slice p bs.length cap) := by rw [cell_of_heap k1]; rfl
    have hpn : 0 ≤ padN bs.length to ∧ padN bs.length to < to := ⟨Int.emod_nonneg _ (by omega), Int.emod_lt_of_pos _ (by omega)⟩
    go_enter Try.func23, Try.ntmps23
    go_wp2_with fail
    go_loop [5] (fun i => ∃ n : Nat, i = .int .i64 n ∧ (n : Int) ≤ padN bs.length to) (fun i => (to - intOf i).toNat)
    case atStart => exact ⟨0, rfl, hpn.1⟩
    case round =>
      obtain ⟨n, rfl, hn⟩ := hrel
      by_cases hz : ((bs.length : Int) + n) % to = 0
      · have hz' : (((bs.length : Int) + n) % to != 0) = false := by simp [hz]
        have he : padN bs.length to = n := padN_eq hpn.1 hpn.2 hn hz
        have HE := Lib.hid he
        clear he hz
        go_wp2_with fail
        refine (rfill_calls HI.out hb hm _ 0).mono ?_; rintro e w1 ⟨rfl, hleft⟩
        go_wp2_with fail
        go_ret
        exact ⟨by rw [padE, if_neg HT.out, HE.out]; rfl, by rw [padB, if_neg HT.out, HE.out]; exact hleft⟩
      · have hz' : (((bs.length : Int) + n) % to != 0) = true := by simp [hz]
        have he : (n : Int) + 1 ≤ padN bs.length to := by
          rcases Int.lt_or_eq_of_le hn with h | h
          · omega
          · exfalso; apply hz; rw [h]; exact padN_sum _ _
        clear hz
        go_wp2_with fail
        go_round
        case rel => exact ⟨n + 1, by go_num, by omega⟩
        case measure => simp [intOf]; omega

end Go.Proofs.Ytajaonnpekdklaa.Ink
