import Derived.Test.YtcebdodogbpglaaRdU
set_option linter.unusedVariables false
set_option maxRecDepth 100000
/-! THE WALK OF FRAMEWHOLE. -/
namespace Go.Proofs.Ytcebdodogbpglaa.Rdr
open Go.ChangeShapes Go.WideShapes Go.ChangeAt Go.RowKit Mem Put

theorem fits_of {M : List Pair} (h : fitB M = true) : Fits 65536 4194304 M := fun m hm => by
  have := List.all_eq_true.1 h m hm
  simpa using this
theorem RR_stream {M : List Pair} (h : Fits 65536 4194304 M) : RR (streamB M) (streamB M).length = ⟨M, [], 0, true⟩ := by
  unfold RR; rw [List.take_of_length_le (Nat.le_refl _)]; exact scan_stream (Nat.le_refl _) (Nat.le_refl _) M h
theorem RR_cut {M : List Pair} (h : Fits 65536 4194304 M) {k : Nat} (hk : k < (streamB M).length) : ∃ t, RR ((streamB M).take k) ((streamB M).take k).length = ⟨M.take (cnt M k), t, 0, false⟩ := by
  unfold RR; rw [List.take_of_length_le (Nat.le_refl _)]; exact scan_cut (Nat.le_refl _) (Nat.le_refl _) M k h hk
theorem stream_len (M : List Pair) : 24 ≤ (streamB M).length ∧ (streamB M).length ≤ tot M + 24 := by
  have h1 := preB_tot M
  have h2 := msg_length 48 [] []
  have e : (streamB M).length = (preB M).length + (msgB 48 [] []).length := by unfold streamB preB; rw [List.length_append]
  have h3 : padU ([] : List UInt8).length = 0 := rfl
  omega
theorem cnt_drop {M : List Pair} {k : Nat} (h : k < M.length) (r : Nat) : cnt (M.drop k) r = if (msgB 49 M[k].1 M[k].2).length ≤ r then 1 + cnt (M.drop (k + 1)) (r - (msgB 49 M[k].1 M[k].2).length) else 0 := by
  rw [List.drop_eq_getElem_cons h]; rfl

set_option maxHeartbeats 1600000 in
theorem whole_walk {w : World} {v : Value} {M : List Pair} {q : Option Addr} {k cap2 : Nat} {cs : List Int} (h : MsgsRd (fun _ => 0) w (fun d => d = 0) v M) (hc : Rd (fun _ => 0) 0 w 1 (.slice q k cap2) k (cs.map fun x => .int .i64 x))
    (hi : ∀ x ∈ cs, -9223372036854775808 ≤ x ∧ x ≤ 9223372036854775807) (short : Int) (hs1 : -9223372036854775808 ≤ short) (hs2 : short ≤ 9223372036854775807) :
    Calls Try.prog 8 #[v, .slice q k cap2, .int .i64 short] w fun e w' => e = .returned (.bool true) ∧ Below w.heap.size w w' := by
  obtain ⟨ql, cl, rfl, hnl, hml⟩ := h.shape
  unfold maxLen at hml
  have HI := Lib.hid hi
  clear hi
  obtain ⟨fb, hfb⟩ : ∃ b, b = fitB M := ⟨_, rfl⟩
  have HFB := Lib.hid hfb
  go_enter Try.func8, Try.ntmps8
  go_wp2_with fail
  refine (fit_calls h).mono ?_; rintro e w1 ⟨rfl, hw1⟩
  have hw1 := hw1.symm
  subst hw1
  rw [← hfb]
  clear hfb
  cases fb with
  | false =>
    go_wp2_with fail
    go_ret
    exact ⟨rfl, Below.refl _ _⟩
  | true =>
    have hf := fits_of HFB.out.symm
    have HF := Lib.hid hf
    clear hf
    go_wp2_with fail
    refine (wide_calls h HF.out).mono ?_; rintro e w1 ⟨wb, rfl, hwb, kq, rfl⟩
    cases wb with
    | true =>
      clear hwb
      go_wp2_with fail
      go_ret
      exact ⟨rfl, below_drewN _ _⟩
    | false =>
      have ht := hwb rfl
      have HT := Lib.hid ht
      have hd := h.drewN kq
      have hcd := hc.drewN kq
      have hst := (Step.refl (fun d => 1 ≤ d) (fun _ => 0) w).drewN kq
      clear hwb ht h hc
      generalize w.drewN kq = w1 at *
      go_wp2_with fail
      refine (stream_calls 1 hd (fun d hd => by omega) HF.out HT.out).mono ?_; rintro e w2 ⟨vb, rfl, L2, s2, ob⟩
      have S2 := hst.trans s2
      have hM2 := hd.step s2 (fun d hd h0 => by rw [h0] at hd; exact absurd (show 1 ≤ 0 from hd) (by omega))
      have hC2 := hcd.step s2 (by omega)
      clear hst s2 hd hcd
      have hsl := stream_len M
      have hTI : (tot M : Int) < 2147483648 := by have := HT.out; omega
      obtain ⟨B, hB⟩ : ∃ B, B = streamB M := ⟨_, rfl⟩
      rw [← hB] at ob hsl
      have hBi : (B.length : Int) ≤ 2147483700 := by omega
      have hB24 : 24 ≤ B.length := hsl.1
      have hBn : B.length ≤ 10000000000 := by omega
      have HB := Lib.hid hB
      clear hB hsl
      obtain ⟨pb, kb, hpb, hkbn, hkbm, _⟩ := ownsRow_shape ob.1
      subst hpb
      have hRR : RR B B.length = ⟨M, [], 0, true⟩ := by rw [HB.out]; exact RR_stream HF.out
      have HRR := Lib.hid hRR
      clear hRR
      go_wp2_with fail
      refine (gone_calls 100 false ob.rd hC2 (by omega) (by omega) HI.out hBn).mono ?_; rintro e w3 ⟨vg, rfl, L3, s3, hg3⟩
      rw [HRR.out] at hg3 ⊢
      rw [show standS (⟨M, [], 0, true⟩ : Scan).w (⟨M, [], 0, true⟩ : Scan).e false = 3 from rfl, show standE (⟨M, [], 0, true⟩ : Scan).w (⟨M, [], 0, true⟩ : Scan).e false = 0 from rfl]
      have hg3 : MsgsRd L3 w3 (fun d => 100 ≤ d) _ M := hg3
      have S3 := S2.trans (s3.mono (fun d hd => by show 1 ≤ d; have : 100 ≤ d := hd; omega))
      have hM3 := hM2.step s3 (fun d hd h0 => by rw [h0] at hd; exact absurd (show 100 ≤ 0 from hd) (by omega))
      have hC3 := hC2.step s3 (by omega)
      have ob3 := ob.step s3 (by omega)
      clear S2 s3 hM2 hC2 ob
      obtain ⟨pg, kg, hpg, _⟩ := hg3.shape
      subst hpg
      go_wp2_with fail
      refine (alike_calls hg3 hM3 M.length (Nat.le_refl _) (Nat.le_refl _) rfl).mono ?_; rintro e w4 ⟨rfl, k4, rfl⟩
      have S4 := S3.drewN k4
      have hM4 := hM3.drewN k4
      have hC4 := hC3.drewN k4
      have ob4 := ob3.drewN k4
      clear S3 hM3 hC3 ob3 hg3
      generalize w3.drewN k4 = w4 at *
      go_wp2_with fail
      refine (gone_calls 100 true ob4.rd hC4 (by omega) (by omega) HI.out hBn).mono ?_; rintro e w5 ⟨vg2, rfl, L5, s5, hg5⟩
      rw [HRR.out] at hg5 ⊢
      rw [show standS (⟨M, [], 0, true⟩ : Scan).w (⟨M, [], 0, true⟩ : Scan).e true = 3 from rfl, show standE (⟨M, [], 0, true⟩ : Scan).w (⟨M, [], 0, true⟩ : Scan).e true = 0 from rfl]
      have hg5 : MsgsRd L5 w5 (fun d => 100 ≤ d) _ M := hg5
      have S5 := S4.trans (s5.mono (fun d hd => by show 1 ≤ d; have : 100 ≤ d := hd; omega))
      have hM5 := hM4.step s5 (fun d hd h0 => by rw [h0] at hd; exact absurd (show 100 ≤ 0 from hd) (by omega))
      have hC5 := hC4.step s5 (by omega)
      have ob5 := ob4.step s5 (by omega)
      clear S4 s5 hM4 hC4 ob4
      obtain ⟨pg2, kg2, hpg2, _⟩ := hg5.shape
      subst hpg2
      go_wp2_with fail
      refine (alike_calls hg5 hM5 M.length (Nat.le_refl _) (Nat.le_refl _) rfl).mono ?_; rintro e w6 ⟨rfl, k6, rfl⟩
      have S6 := S5.drewN k6
      have hM6 := hM5.drewN k6
      have hC6 := hC5.drewN k6
      have ob6 := ob5.drewN k6
      clear S5 hM5 hC5 ob5 hg5
      generalize w5.drewN k6 = w6 at *
      have HBN := Lib.hid hBn
      clear hBn
      by_cases hneg : short < 0
      · obtain ⟨s1, hs1'⟩ := Int.eq_ofNat_of_zero_le (show 0 ≤ -(short + 1) by omega)
        obtain rfl : short = -(s1 : Int) - 1 := by omega
        clear hs1'
        have zz : -(-(s1 : Int) - 1 + 1) = (s1 : Int) := by omega
        go_upto_region 17 with fail
        clear hs1 hs2 hneg zz
        obtain ⟨r, hr0⟩ : ∃ r, r = s1 % B.length := ⟨_, rfl⟩
        have hrl : r < B.length := by rw [hr0]; exact Nat.mod_lt _ (by omega)
        have t1 : (s1 : Int) % (B.length : Int) = (r : Int) := by rw [hr0]; exact (Int.natCast_emod s1 B.length).symm
        have t2 : Int.tmod (s1 : Int) (B.length : Int) = (r : Int) := by rw [Int.tmod_eq_emod_of_nonneg (by omega)]; exact t1
        clear hr0
        go_upto_region 19 with fail
        clear t1 t2
        have hkb : kb ≤ maxLen := hkbm
        go_wp2_with fail
        go_loopw [14, 15] (fun n_ at_ wr => ∃ (kk at0 : Nat) (L1 : Nat → Nat), kk ≤ M.length ∧ n_ = .int .i64 kk ∧ at_ = .int .i64 at0 ∧ at0 ≤ r ∧ cnt M r = kk + cnt (M.drop kk) (r - at0) ∧ Step (fun d => d = 50) L5 w6 L1 wr) (fun n_ _ _ => M.length - (intOf n_).toNat)
        case atStart => exact ⟨0, 0, L5, by omega, rfl, rfl, by omega, by rw [List.drop_zero, Nat.zero_add, Nat.sub_zero], Step.refl _ _ _⟩
        case round =>
          obtain ⟨kk, at0, L7, hkk, rfl, rfl, hat, hcn, st7⟩ := hrel
          have S7 := S6.trans (st7.mono (fun d hd => by show 1 ≤ d; have : d = 50 := hd; omega))
          have hM7 := hM6.step st7 (fun d hd h0 => by rw [h0] at hd; exact absurd (show 0 = 50 from hd) (by omega))
          have hC7 := hC6.step st7 (by omega)
          have ob7 := ob6.step st7 (by omega)
          have HCN := Lib.hid hcn
          clear hcn
          by_cases hlt : kk < M.length
          · obtain ⟨b, off, p1, k1, p2, k2, c1, c2, hq, x1, x2, _, _, hc1, hc2, r1, r2⟩ := hM7.cells hlt
            subst hq
            have hfk := HF.out M[kk] (List.getElem_mem hlt)
            have hcd := cnt_drop hlt (r - at0)
            obtain ⟨m, hmk⟩ : ∃ m, m = M[kk] := ⟨_, rfl⟩
            rw [← hmk] at x1 x2 r1 r2 hfk hcd
            obtain ⟨pf1, pf2⟩ := put_fits hfk
            have hml := msg_length 49 m.1 m.2
            have hp1 := padU_ge m.1.length
            have hp2 := padU_ge m.2.length
            obtain ⟨B0, hB0⟩ : ∃ S, S = msgB 49 m.1 m.2 := ⟨_, rfl⟩
            rw [← hB0] at pf2 hml hcd
            have hBl : B0.length ≤ 4300000 := by omega
            have HCD := Lib.hid hcd
            have HF1 := Lib.hid pf1
            have HF2 := Lib.hid pf2
            clear pf1 pf2 hml hp1 hp2 hmk hB0 hcd
            go_wp2_with fail
            refine (fput_calls (c := 50) (by omega) (by omega) r1 r2).mono ?_; rintro e w8 ⟨v8, rfl, L8, s8, o8⟩
            rw [HF1.out]
            rw [HF2.out] at o8
            have st8 := st7.trans s8
            obtain ⟨pb8, kb8, hpb8, _⟩ := ownsRow_shape o8.1
            subst hpb8
            clear o8 x1 x2 r1 r2
            by_cases hgt : r < at0 + B0.length
            · have z1 : decide ((r : Int) < (at0 : Int) + B0.length) = true := by simp; omega
              have hcnt : cnt M r = kk := by rw [HCN.out, HCD.out, if_neg (by omega)]; rfl
              have S7 := S7.trans (s8.mono (fun d hd => by show 1 ≤ d; have : d = 50 := hd; omega))
              have hM7 := hM7.step s8 (fun d hd h0 => by rw [h0] at hd; exact absurd (show 0 = 50 from hd) (by omega))
              have hC7 := hC7.step s8 (by omega)
              have ob7 := ob7.step s8 (by omega)
              clear st7 st8 s8
              have hlk : (M.take kk).length = kk := by rw [List.length_take]; omega
              have hlr : (B.take r).length = r := by rw [List.length_take]; omega
              have hrd : Rd L8 1 w8 1 (.slice pb r kb) r ((B.take r).map byt) := Rd.front (ys := (B.drop r).map byt) (by rw [← List.map_append, List.take_append_drop]; exact ob7.rd) (by simp; omega) (by omega) (by omega)
              have hRC : ∃ t, RR (B.take r) (B.take r).length = ⟨M.take kk, t, 0, false⟩ := by
                have := RR_cut HF.out (k := r) (by rw [← HB.out]; exact hrl)
                rw [← HB.out, hcnt] at this
                exact this
              obtain ⟨tt, hRC⟩ := hRC
              have HRC := Lib.hid hRC
              have HLK := Lib.hid hlk
              have HRD := Lib.hid hrd
              clear hRC hcnt hlk hlr hrd
              go_wp2_with fail
              refine (gone_calls 100 true HRD.out hC7 (by omega) (by omega) HI.out (by omega)).mono ?_; rintro e wa ⟨vg3, rfl, La, s8, hg8⟩
              rw [HRC.out] at hg8 ⊢
              rw [show standS (⟨M.take kk, tt, 0, false⟩ : Scan).w (⟨M.take kk, tt, 0, false⟩ : Scan).e true = 4 from rfl, show standE (⟨M.take kk, tt, 0, false⟩ : Scan).w (⟨M.take kk, tt, 0, false⟩ : Scan).e true = 73 from rfl]
              have hg8 : MsgsRd La wa (fun d => 100 ≤ d) _ (M.take kk) := hg8
              have S8 := S7.trans (s8.mono (fun d hd => by show 1 ≤ d; have : 100 ≤ d := hd; omega))
              have hM8 := hM7.step s8 (fun d hd h0 => by rw [h0] at hd; exact absurd (show 100 ≤ 0 from hd) (by omega))
              obtain ⟨pg3, kg3, hpg3, _⟩ := hg8.shape
              rw [HLK.out] at hpg3
              subst hpg3
              clear S7 s8 hM7 hC7 ob7 HRD
              go_wp2_with fail
              refine (alike_calls hg8 hM8 kk (by rw [HLK.out]; exact Nat.le_refl _) hkk (by rw [List.take_take, Nat.min_self])).mono ?_; rintro e wb ⟨rfl, k9, rfl⟩
              have S9 := S8.drewN k9
              clear hg8 hM8 S8
              go_wp2_with fail
              go_ret
              exact ⟨rfl, S9.below (Nat.le_refl _) (fun _ _ => by decide)⟩
            · have z1 : decide ((r : Int) < (at0 : Int) + B0.length) = false := by simp; omega
              have hcn2 : cnt M r = (kk + 1) + cnt (M.drop (kk + 1)) (r - (at0 + B0.length)) := by rw [HCN.out, HCD.out, if_pos (by omega), Nat.sub_add_eq]; omega
              have HCN2 := Lib.hid hcn2
              clear hcn2 S7 hM7 hC7 ob7 st7 s8
              go_wp2_with fail
              go_roundw
              case rel => exact ⟨kk + 1, at0 + B0.length, L8, by omega, by go_num, by first | rfl | go_num, by omega, HCN2.out, st8⟩
              case measure => simp [intOf]; omega
          · have hkE : kk = M.length := by omega
            have hcnt : cnt M r = kk := by rw [HCN.out, List.drop_of_length_le (by omega)]; rfl
            clear st7 hkE
            have hlk : (M.take kk).length = kk := by rw [List.length_take]; omega
            have hlr : (B.take r).length = r := by rw [List.length_take]; omega
            have hrd : Rd L7 1 wr 1 (.slice pb r kb) r ((B.take r).map byt) := Rd.front (ys := (B.drop r).map byt) (by rw [← List.map_append, List.take_append_drop]; exact ob7.rd) (by simp; omega) (by omega) (by omega)
            have hRC : ∃ t, RR (B.take r) (B.take r).length = ⟨M.take kk, t, 0, false⟩ := by
              have := RR_cut HF.out (k := r) (by rw [← HB.out]; exact hrl)
              rw [← HB.out, hcnt] at this
              exact this
            obtain ⟨tt, hRC⟩ := hRC
            have HRC := Lib.hid hRC
            have HLK := Lib.hid hlk
            have HRD := Lib.hid hrd
            clear hRC hcnt hlk hlr hrd
            go_wp2_with fail
            refine (gone_calls 100 true HRD.out hC7 (by omega) (by omega) HI.out (by omega)).mono ?_; rintro e wa ⟨vg3, rfl, La, s8, hg8⟩
            rw [HRC.out] at hg8 ⊢
            rw [show standS (⟨M.take kk, tt, 0, false⟩ : Scan).w (⟨M.take kk, tt, 0, false⟩ : Scan).e true = 4 from rfl, show standE (⟨M.take kk, tt, 0, false⟩ : Scan).w (⟨M.take kk, tt, 0, false⟩ : Scan).e true = 73 from rfl]
            have hg8 : MsgsRd La wa (fun d => 100 ≤ d) _ (M.take kk) := hg8
            have S8 := S7.trans (s8.mono (fun d hd => by show 1 ≤ d; have : 100 ≤ d := hd; omega))
            have hM8 := hM7.step s8 (fun d hd h0 => by rw [h0] at hd; exact absurd (show 100 ≤ 0 from hd) (by omega))
            obtain ⟨pg3, kg3, hpg3, _⟩ := hg8.shape
            rw [HLK.out] at hpg3
            subst hpg3
            clear S7 s8 hM7 hC7 ob7 HRD
            go_wp2_with fail
            refine (alike_calls hg8 hM8 kk (by rw [HLK.out]; exact Nat.le_refl _) hkk (by rw [List.take_take, Nat.min_self])).mono ?_; rintro e wb ⟨rfl, k9, rfl⟩
            have S9 := S8.drewN k9
            clear hg8 hM8 S8
            go_wp2_with fail
            go_ret
            exact ⟨rfl, S9.below (Nat.le_refl _) (fun _ _ => by decide)⟩
      · have zn : decide (short < 0) = false := by simpa using hneg
        have hge : 0 ≤ short := by omega
        have HGE := Lib.hid hge
        clear hs1 hs2 hneg hge
        go_upto_region 17 with fail
        obtain ⟨s1, rfl⟩ := Int.eq_ofNat_of_zero_le HGE.out
        clear zn HGE
        obtain ⟨r, hr0⟩ : ∃ r, r = s1 % B.length := ⟨_, rfl⟩
        have hrl : r < B.length := by rw [hr0]; exact Nat.mod_lt _ (by omega)
        have t1 : (s1 : Int) % (B.length : Int) = (r : Int) := by rw [hr0]; exact (Int.natCast_emod s1 B.length).symm
        have t2 : Int.tmod (s1 : Int) (B.length : Int) = (r : Int) := by rw [Int.tmod_eq_emod_of_nonneg (by omega)]; exact t1
        clear hr0
        go_upto_region 19 with fail
        clear t1 t2
        have hkb : kb ≤ maxLen := hkbm
        go_wp2_with fail
        go_loopw [14, 15] (fun n_ at_ wr => ∃ (kk at0 : Nat) (L1 : Nat → Nat), kk ≤ M.length ∧ n_ = .int .i64 kk ∧ at_ = .int .i64 at0 ∧ at0 ≤ r ∧ cnt M r = kk + cnt (M.drop kk) (r - at0) ∧ Step (fun d => d = 50) L5 w6 L1 wr) (fun n_ _ _ => M.length - (intOf n_).toNat)
        case atStart => exact ⟨0, 0, L5, by omega, rfl, rfl, by omega, by rw [List.drop_zero, Nat.zero_add, Nat.sub_zero], Step.refl _ _ _⟩
        case round =>
          obtain ⟨kk, at0, L7, hkk, rfl, rfl, hat, hcn, st7⟩ := hrel
          have S7 := S6.trans (st7.mono (fun d hd => by show 1 ≤ d; have : d = 50 := hd; omega))
          have hM7 := hM6.step st7 (fun d hd h0 => by rw [h0] at hd; exact absurd (show 0 = 50 from hd) (by omega))
          have hC7 := hC6.step st7 (by omega)
          have ob7 := ob6.step st7 (by omega)
          have HCN := Lib.hid hcn
          clear hcn
          by_cases hlt : kk < M.length
          · obtain ⟨b, off, p1, k1, p2, k2, c1, c2, hq, x1, x2, _, _, hc1, hc2, r1, r2⟩ := hM7.cells hlt
            subst hq
            have hfk := HF.out M[kk] (List.getElem_mem hlt)
            have hcd := cnt_drop hlt (r - at0)
            obtain ⟨m, hmk⟩ : ∃ m, m = M[kk] := ⟨_, rfl⟩
            rw [← hmk] at x1 x2 r1 r2 hfk hcd
            obtain ⟨pf1, pf2⟩ := put_fits hfk
            have hml := msg_length 49 m.1 m.2
            have hp1 := padU_ge m.1.length
            have hp2 := padU_ge m.2.length
            obtain ⟨B0, hB0⟩ : ∃ S, S = msgB 49 m.1 m.2 := ⟨_, rfl⟩
            rw [← hB0] at pf2 hml hcd
            have hBl : B0.length ≤ 4300000 := by omega
            have HCD := Lib.hid hcd
            have HF1 := Lib.hid pf1
            have HF2 := Lib.hid pf2
            clear pf1 pf2 hml hp1 hp2 hmk hB0 hcd
            go_wp2_with fail
            refine (fput_calls (c := 50) (by omega) (by omega) r1 r2).mono ?_; rintro e w8 ⟨v8, rfl, L8, s8, o8⟩
            rw [HF1.out]
            rw [HF2.out] at o8
            have st8 := st7.trans s8
            obtain ⟨pb8, kb8, hpb8, _⟩ := ownsRow_shape o8.1
            subst hpb8
            clear o8 x1 x2 r1 r2
            by_cases hgt : r < at0 + B0.length
            · have z1 : decide ((r : Int) < (at0 : Int) + B0.length) = true := by simp; omega
              have hcnt : cnt M r = kk := by rw [HCN.out, HCD.out, if_neg (by omega)]; rfl
              have S7 := S7.trans (s8.mono (fun d hd => by show 1 ≤ d; have : d = 50 := hd; omega))
              have hM7 := hM7.step s8 (fun d hd h0 => by rw [h0] at hd; exact absurd (show 0 = 50 from hd) (by omega))
              have hC7 := hC7.step s8 (by omega)
              have ob7 := ob7.step s8 (by omega)
              clear st7 st8 s8
              have hlk : (M.take kk).length = kk := by rw [List.length_take]; omega
              have hlr : (B.take r).length = r := by rw [List.length_take]; omega
              have hrd : Rd L8 1 w8 1 (.slice pb r kb) r ((B.take r).map byt) := Rd.front (ys := (B.drop r).map byt) (by rw [← List.map_append, List.take_append_drop]; exact ob7.rd) (by simp; omega) (by omega) (by omega)
              have hRC : ∃ t, RR (B.take r) (B.take r).length = ⟨M.take kk, t, 0, false⟩ := by
                have := RR_cut HF.out (k := r) (by rw [← HB.out]; exact hrl)
                rw [← HB.out, hcnt] at this
                exact this
              obtain ⟨tt, hRC⟩ := hRC
              have HRC := Lib.hid hRC
              have HLK := Lib.hid hlk
              have HRD := Lib.hid hrd
              clear hRC hcnt hlk hlr hrd
              go_wp2_with fail
              refine (gone_calls 100 true HRD.out hC7 (by omega) (by omega) HI.out (by omega)).mono ?_; rintro e wa ⟨vg3, rfl, La, s8, hg8⟩
              rw [HRC.out] at hg8 ⊢
              rw [show standS (⟨M.take kk, tt, 0, false⟩ : Scan).w (⟨M.take kk, tt, 0, false⟩ : Scan).e true = 4 from rfl, show standE (⟨M.take kk, tt, 0, false⟩ : Scan).w (⟨M.take kk, tt, 0, false⟩ : Scan).e true = 73 from rfl]
              have hg8 : MsgsRd La wa (fun d => 100 ≤ d) _ (M.take kk) := hg8
              have S8 := S7.trans (s8.mono (fun d hd => by show 1 ≤ d; have : 100 ≤ d := hd; omega))
              have hM8 := hM7.step s8 (fun d hd h0 => by rw [h0] at hd; exact absurd (show 100 ≤ 0 from hd) (by omega))
              obtain ⟨pg3, kg3, hpg3, _⟩ := hg8.shape
              rw [HLK.out] at hpg3
              subst hpg3
              clear S7 s8 hM7 hC7 ob7 HRD
              go_wp2_with fail
              refine (alike_calls hg8 hM8 kk (by rw [HLK.out]; exact Nat.le_refl _) hkk (by rw [List.take_take, Nat.min_self])).mono ?_; rintro e wb ⟨rfl, k9, rfl⟩
              have S9 := S8.drewN k9
              clear hg8 hM8 S8
              go_wp2_with fail
              go_ret
              exact ⟨rfl, S9.below (Nat.le_refl _) (fun _ _ => by decide)⟩
            · have z1 : decide ((r : Int) < (at0 : Int) + B0.length) = false := by simp; omega
              have hcn2 : cnt M r = (kk + 1) + cnt (M.drop (kk + 1)) (r - (at0 + B0.length)) := by rw [HCN.out, HCD.out, if_pos (by omega), Nat.sub_add_eq]; omega
              have HCN2 := Lib.hid hcn2
              clear hcn2 S7 hM7 hC7 ob7 st7 s8
              go_wp2_with fail
              go_roundw
              case rel => exact ⟨kk + 1, at0 + B0.length, L8, by omega, by go_num, by first | rfl | go_num, by omega, HCN2.out, st8⟩
              case measure => simp [intOf]; omega
          · have hkE : kk = M.length := by omega
            have hcnt : cnt M r = kk := by rw [HCN.out, List.drop_of_length_le (by omega)]; rfl
            clear st7 hkE
            have hlk : (M.take kk).length = kk := by rw [List.length_take]; omega
            have hlr : (B.take r).length = r := by rw [List.length_take]; omega
            have hrd : Rd L7 1 wr 1 (.slice pb r kb) r ((B.take r).map byt) := Rd.front (ys := (B.drop r).map byt) (by rw [← List.map_append, List.take_append_drop]; exact ob7.rd) (by simp; omega) (by omega) (by omega)
            have hRC : ∃ t, RR (B.take r) (B.take r).length = ⟨M.take kk, t, 0, false⟩ := by
              have := RR_cut HF.out (k := r) (by rw [← HB.out]; exact hrl)
              rw [← HB.out, hcnt] at this
              exact this
            obtain ⟨tt, hRC⟩ := hRC
            have HRC := Lib.hid hRC
            have HLK := Lib.hid hlk
            have HRD := Lib.hid hrd
            clear hRC hcnt hlk hlr hrd
            go_wp2_with fail
            refine (gone_calls 100 true HRD.out hC7 (by omega) (by omega) HI.out (by omega)).mono ?_; rintro e wa ⟨vg3, rfl, La, s8, hg8⟩
            rw [HRC.out] at hg8 ⊢
            rw [show standS (⟨M.take kk, tt, 0, false⟩ : Scan).w (⟨M.take kk, tt, 0, false⟩ : Scan).e true = 4 from rfl, show standE (⟨M.take kk, tt, 0, false⟩ : Scan).w (⟨M.take kk, tt, 0, false⟩ : Scan).e true = 73 from rfl]
            have hg8 : MsgsRd La wa (fun d => 100 ≤ d) _ (M.take kk) := hg8
            have S8 := S7.trans (s8.mono (fun d hd => by show 1 ≤ d; have : 100 ≤ d := hd; omega))
            have hM8 := hM7.step s8 (fun d hd h0 => by rw [h0] at hd; exact absurd (show 100 ≤ 0 from hd) (by omega))
            obtain ⟨pg3, kg3, hpg3, _⟩ := hg8.shape
            rw [HLK.out] at hpg3
            subst hpg3
            clear S7 s8 hM7 hC7 ob7 HRD
            go_wp2_with fail
            refine (alike_calls hg8 hM8 kk (by rw [HLK.out]; exact Nat.le_refl _) hkk (by rw [List.take_take, Nat.min_self])).mono ?_; rintro e wb ⟨rfl, k9, rfl⟩
            have S9 := S8.drewN k9
            clear hg8 hM8 S8
            go_wp2_with fail
            go_ret
            exact ⟨rfl, S9.below (Nat.le_refl _) (fun _ _ => by decide)⟩

end Go.Proofs.Ytcebdodogbpglaa.Rdr
