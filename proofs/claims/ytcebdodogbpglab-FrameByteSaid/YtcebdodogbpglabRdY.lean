import Derived.Test.YtcebdodogbpglabRdV
import Derived.Test.YtcebdodogbpglabRdX
import Derived.Laws.BitsAllLaws
set_option linter.unusedVariables false
set_option maxRecDepth 100000
/-! THE WALK OF FRAMEBYTE. -/
namespace Go.Proofs.Ytcebdodogbpglab.Rdr
open Go.ChangeShapes Go.WideShapes Go.ChangeAt Go.RowKit Mem Put

theorem standS_err {a : Int} {b c : Bool} (h : a ≠ 0) : standS a b c = 4 ∧ standE a b c = a := by
  unfold standS standE; rw [if_pos h, if_pos h]; exact ⟨rfl, rfl⟩

set_option maxHeartbeats 4000000 in
theorem byte_walk {w : World} {v : Value} {M : List Pair} {q : Option Addr} {k cap2 : Nat} {cs : List Int} (h : MsgsRd (fun _ => 0) w (fun d => d = 0) v M) (hc : Rd (fun _ => 0) 0 w 1 (.slice q k cap2) k (cs.map fun x => .int .i64 x))
    (hi : ∀ x ∈ cs, -9223372036854775808 ≤ x ∧ x ≤ 9223372036854775807) (short : Int) (hs1 : -9223372036854775808 ≤ short) (hs2 : short ≤ 9223372036854775807) (by0 : UInt8) :
    Calls Try.prog 3 #[v, .slice q k cap2, .int .i64 short, .int .u8 (by0.toNat : Int)] w fun e w' => e = .returned (.bool true) ∧ Below w.heap.size w w' := by
  obtain ⟨ql, cl, rfl, hnl, hml⟩ := h.shape
  unfold maxLen at hml
  have HI := Lib.hid hi
  clear hi
  obtain ⟨fb, hfb⟩ : ∃ b, b = fitB M := ⟨_, rfl⟩
  have HFB := Lib.hid hfb
  go_enter Try.func3, Try.ntmps3
  go_wp2_with fail
  refine (fit_calls h).mono ?_; rintro e w1 ⟨rfl, hw1⟩
  have hw1 := hw1.symm
  subst hw1
  rw [← hfb]
  clear hfb
  cases fb with
  | false =>
    go_wp2_with fail
    go_ret
    exact ⟨rfl, Below.refl _ _⟩
  | true =>
    have hf := fits_of HFB.out.symm
    have HF := Lib.hid hf
    clear hf
    go_wp2_with fail
    refine (wide_calls h HF.out).mono ?_; rintro e w1 ⟨wb, rfl, hwb, kq, rfl⟩
    cases wb with
    | true =>
      clear hwb
      go_wp2_with fail
      go_ret
      exact ⟨rfl, below_drewN _ _⟩
    | false =>
      have ht := hwb rfl
      have HT := Lib.hid ht
      have hd := h.drewN kq
      have hcd := hc.drewN kq
      have hst := (Step.refl (fun d => 1 ≤ d) (fun _ => 0) w).drewN kq
      clear hwb ht h hc
      generalize w.drewN kq = w1 at *
      go_wp2_with fail
      refine (stream_calls 1 hd (fun d hd => by omega) HF.out HT.out).mono ?_; rintro e w2 ⟨vb, rfl, L2, s2, ob⟩
      have S2 := hst.trans s2
      have hM2 := hd.step s2 (fun d hd h0 => by rw [h0] at hd; exact absurd (show 1 ≤ 0 from hd) (by omega))
      have hC2 := hcd.step s2 (by omega)
      clear hst s2 hd hcd
      have hsl := stream_len M
      have hTI : (tot M : Int) < 2147483648 := by have := HT.out; omega
      obtain ⟨B, hB⟩ : ∃ B, B = streamB M := ⟨_, rfl⟩
      rw [← hB] at ob hsl
      have hBi : (B.length : Int) ≤ 2147483700 := by omega
      have hB24 : 24 ≤ B.length := hsl.1
      have hBn : B.length ≤ 10000000000 := by omega
      have HB := Lib.hid hB
      clear hB hsl
      obtain ⟨pb, kb, hpb, hkbn, hkbm, _⟩ := ownsRow_shape ob.1
      subst hpb
      by_cases hneg : short < 0
      · obtain ⟨s1, hs1'⟩ := Int.eq_ofNat_of_zero_le (show 0 ≤ -(short + 1) by omega)
        obtain rfl : short = -(s1 : Int) - 1 := by omega
        clear hs1'
        have zz : -(-(s1 : Int) - 1 + 1) = (s1 : Int) := by omega
        go_upto_region 9 with fail
        clear hs1 hs2 hneg zz
        obtain ⟨r, hr0⟩ : ∃ r, r = s1 % B.length := ⟨_, rfl⟩
        have hrl : r < B.length := by rw [hr0]; exact Nat.mod_lt _ (by omega)
        have t1 : (s1 : Int) % (B.length : Int) = (r : Int) := by rw [hr0]; exact (Int.natCast_emod s1 B.length).symm
        have t2 : Int.tmod (s1 : Int) (B.length : Int) = (r : Int) := by rw [Int.tmod_eq_emod_of_nonneg (by omega)]; exact t1
        clear hr0
        by_cases hb0 : by0 = 0
        · have e0 : (by0.toNat : Int) = 0 := by rw [hb0]; rfl
          rw [e0]
          clear e0 hb0
          have hY : (1 : UInt8) ≠ 0 := by decide
          go_upto_region 12 with fail
          clear t1 t2
          rw [show (1 : Int) = (((1 : UInt8).toNat : Nat) : Int) from rfl]
          generalize (1 : UInt8) = Y at *
          obtain ⟨g, cp, hv, hLg, hcl, hfz, ho2, st2⟩ := Own.set ob (j := r) (by simp; exact hrl) (byt (B[r] ^^^ Y))
          cases hv
          have hZ : (B.map byt).set r (byt (B[r] ^^^ Y)) = (B.set r (B[r] ^^^ Y)).map byt := by rw [List.map_set]
          rw [hZ] at ho2
          have hBY := scan_byte (lm := 65536) (lb := 4194304) (Nat.le_refl _) (Nat.le_refl _) M (B.set r (B[r] ^^^ Y)) r HF.out (by rw [← HB.out]; exact differ_set hrl (xor_ne B[r] Y hY))
          rw [List.getElem_map] at hcl
          have hx : byt (B[r] ^^^ Y) = .int .u8 (bits BinOp.xor IntKind.u8 (B[r].toNat : Int) (Y.toNat : Int)) := by
            rw [u8_xor_nat _ _ (UInt8.toNat_lt _) (UInt8.toNat_lt _)]; unfold byt; rw [UInt8.toNat_xor]
          obtain ⟨S', hS'⟩ : ∃ S', S' = B.set r (B[r] ^^^ Y) := ⟨_, rfl⟩
          have hSl : S'.length = B.length := by rw [hS']; simp
          rw [← hS'] at ho2 hBY
          rw [hx] at ho2 st2
          obtain ⟨X, hX⟩ : ∃ X, X = B[r].toNat := ⟨_, rfl⟩
          obtain ⟨Yn, hYn⟩ : ∃ X, X = Y.toNat := ⟨_, rfl⟩
          have hcl2 : w2.cell? ⟨g, r, none⟩ = some (.int .u8 (X : Int)) := by rw [hX]; exact hcl
          clear hcl
          rw [← hX, ← hYn] at ho2 st2
          rw [← hYn]
          have hXb : X < 256 := by rw [hX]; exact UInt8.toNat_lt _
          have hYb : Yn < 256 := by rw [hYn]; exact UInt8.toNat_lt _
          have S3 := S2.trans (st2.mono (by rintro _ rfl; exact Nat.le_refl _))
          have hM3 := hM2.step st2 (fun d hd h0 => by rw [h0] at hd; exact absurd (show 0 = 1 from hd) (by omega))
          have hC3 := hC2.step st2 (by omega)
          have HBY := Lib.hid hBY
          have HSl := Lib.hid hSl
          clear S2 hM2 hC2 ob st2 hBY hX hYn hx hZ hS' hY
          go_wp2_with fail
          generalize w2.setCell ⟨g, r, none⟩ (.int .u8 (bits BinOp.xor IntKind.u8 (X : Int) (Yn : Int))) = w3 at *
          go_loopw [12, 13] (fun n_ at_ wr => ∃ (kk at0 : Nat) (L1 : Nat → Nat), kk ≤ M.length ∧ n_ = .int .i64 kk ∧ at_ = .int .i64 at0 ∧ at0 ≤ r ∧ cnt M r = kk + cnt (M.drop kk) (r - at0) ∧ Step (fun d => d = 50) L2 w3 L1 wr) (fun n_ _ _ => M.length - (intOf n_).toNat)
          case atStart => exact ⟨0, 0, L2, by omega, rfl, rfl, by omega, by rw [List.drop_zero, Nat.zero_add, Nat.sub_zero], Step.refl _ _ _⟩
          case round =>
            obtain ⟨kk, at0, L7, hkk, rfl, rfl, hat, hcn, st7⟩ := hrel
            have S7 := S3.trans (st7.mono (fun d hd => by show 1 ≤ d; have : d = 50 := hd; omega))
            have hM7 := hM3.step st7 (fun d hd h0 => by rw [h0] at hd; exact absurd (show 0 = 50 from hd) (by omega))
            have hC7 := hC3.step st7 (by omega)
            have ob7 := ho2.step st7 (by omega)
            have HCN := Lib.hid hcn
            clear hcn
            by_cases hlt : kk < M.length
            · obtain ⟨b, off, p1, k1, p2, k2, c1, c2, hq, x1, x2, _, _, hc1, hc2, r1, r2⟩ := hM7.cells hlt
              subst hq
              have hfk := HF.out M[kk] (List.getElem_mem hlt)
              have hcd := cnt_drop hlt (r - at0)
              obtain ⟨m, hmk⟩ : ∃ m, m = M[kk] := ⟨_, rfl⟩
              rw [← hmk] at x1 x2 r1 r2 hfk hcd
              obtain ⟨pf1, pf2⟩ := put_fits hfk
              have hml := msg_length 49 m.1 m.2
              have hp1 := padU_ge m.1.length
              have hp2 := padU_ge m.2.length
              obtain ⟨B0, hB0⟩ : ∃ S, S = msgB 49 m.1 m.2 := ⟨_, rfl⟩
              rw [← hB0] at pf2 hml hcd
              have hBl : B0.length ≤ 4300000 := by omega
              have HCD := Lib.hid hcd
              have HF1 := Lib.hid pf1
              have HF2 := Lib.hid pf2
              clear pf1 pf2 hml hp1 hp2 hmk hB0 hcd
              go_wp2_with fail
              refine (fput_calls (c := 50) (by omega) (by omega) r1 r2).mono ?_; rintro e w8 ⟨v8, rfl, L8, s8, o8⟩
              rw [HF1.out]
              rw [HF2.out] at o8
              have st8 := st7.trans s8
              obtain ⟨pb8, kb8, hpb8, _⟩ := ownsRow_shape o8.1
              subst hpb8
              clear o8 x1 x2 r1 r2
              by_cases hgt : r < at0 + B0.length
              · have z1 : decide ((r : Int) < (at0 : Int) + B0.length) = true := by simp; omega
                have hcnt : cnt M r = kk := by rw [HCN.out, HCD.out, if_neg (by omega)]; rfl
                have S7 := S7.trans (s8.mono (fun d hd => by show 1 ≤ d; have : d = 50 := hd; omega))
                have hM7 := hM7.step s8 (fun d hd h0 => by rw [h0] at hd; exact absurd (show 0 = 50 from hd) (by omega))
                have hC7 := hC7.step s8 (by omega)
                have ob7 := ob7.step s8 (by omega)
                clear st7 st8 s8
                have hlk : (M.take kk).length = kk := by rw [List.length_take]; omega
                have hRC : ∃ E, E ≠ 0 ∧ RR S' S'.length = ⟨M.take kk, [], E, false⟩ := by
                  obtain ⟨E, e1, e2⟩ := HBY.out
                  rw [hcnt] at e2
                  exact ⟨E, e1, by unfold RR; rw [List.take_of_length_le (Nat.le_refl _)]; exact e2⟩
                obtain ⟨E, hE0, hRC⟩ := hRC
                have zE : (E != 0) = true := by simpa using hE0
                have HRC := Lib.hid hRC
                have HLK := Lib.hid hlk
                have hsE := standS_err (b := false) (c := true) hE0
                have HSE := Lib.hid hsE
                clear hRC hcnt hlk hE0 hsE
                go_wp2_with fail
                refine (gone_calls 100 true ob7.rd hC7 (by omega) (by omega) HI.out (by omega)).mono ?_; rintro e wa ⟨vg3, rfl, La, s8, hg8⟩
                rw [HRC.out] at hg8 ⊢
                rw [show standS (⟨M.take kk, [], E, false⟩ : Scan).w (⟨M.take kk, [], E, false⟩ : Scan).e true = 4 from HSE.out.1, show standE (⟨M.take kk, [], E, false⟩ : Scan).w (⟨M.take kk, [], E, false⟩ : Scan).e true = E from HSE.out.2]
                have hg8 : MsgsRd La wa (fun d => 100 ≤ d) _ (M.take kk) := hg8
                have S8 := S7.trans (s8.mono (fun d hd => by show 1 ≤ d; have : 100 ≤ d := hd; omega))
                have hM8 := hM7.step s8 (fun d hd h0 => by rw [h0] at hd; exact absurd (show 100 ≤ 0 from hd) (by omega))
                obtain ⟨pg3, kg3, hpg3, _⟩ := hg8.shape
                rw [HLK.out] at hpg3
                subst hpg3
                clear S7 s8 hM7 hC7 ob7
                go_wp2_with fail
                refine (alike_calls hg8 hM8 kk (by rw [HLK.out]; exact Nat.le_refl _) hkk (by rw [List.take_take, Nat.min_self])).mono ?_; rintro e wb ⟨rfl, k9, rfl⟩
                have S9 := S8.drewN k9
                clear hg8 hM8 S8
                go_wp2_with fail
                go_ret
                exact ⟨rfl, S9.below (Nat.le_refl _) (fun _ _ => by decide)⟩
              · have z1 : decide ((r : Int) < (at0 : Int) + B0.length) = false := by simp; omega
                have hcn2 : cnt M r = (kk + 1) + cnt (M.drop (kk + 1)) (r - (at0 + B0.length)) := by rw [HCN.out, HCD.out, if_pos (by omega), Nat.sub_add_eq]; omega
                have HCN2 := Lib.hid hcn2
                clear hcn2 S7 hM7 hC7 ob7 st7 s8
                go_wp2_with fail
                go_roundw
                case rel => exact ⟨kk + 1, at0 + B0.length, L8, by omega, by go_num, by first | rfl | go_num, by omega, HCN2.out, st8⟩
                case measure => simp [intOf]; omega
            · have hkE : kk = M.length := by omega
              have hcnt : cnt M r = kk := by rw [HCN.out, List.drop_of_length_le (by omega)]; rfl
              clear st7 hkE
              have hlk : (M.take kk).length = kk := by rw [List.length_take]; omega
              have hRC : ∃ E, E ≠ 0 ∧ RR S' S'.length = ⟨M.take kk, [], E, false⟩ := by
                obtain ⟨E, e1, e2⟩ := HBY.out
                rw [hcnt] at e2
                exact ⟨E, e1, by unfold RR; rw [List.take_of_length_le (Nat.le_refl _)]; exact e2⟩
              obtain ⟨E, hE0, hRC⟩ := hRC
              have zE : (E != 0) = true := by simpa using hE0
              have HRC := Lib.hid hRC
              have HLK := Lib.hid hlk
              have hsE := standS_err (b := false) (c := true) hE0
              have HSE := Lib.hid hsE
              clear hRC hcnt hlk hE0 hsE
              go_wp2_with fail
              refine (gone_calls 100 true ob7.rd hC7 (by omega) (by omega) HI.out (by omega)).mono ?_; rintro e wa ⟨vg3, rfl, La, s8, hg8⟩
              rw [HRC.out] at hg8 ⊢
              rw [show standS (⟨M.take kk, [], E, false⟩ : Scan).w (⟨M.take kk, [], E, false⟩ : Scan).e true = 4 from HSE.out.1, show standE (⟨M.take kk, [], E, false⟩ : Scan).w (⟨M.take kk, [], E, false⟩ : Scan).e true = E from HSE.out.2]
              have hg8 : MsgsRd La wa (fun d => 100 ≤ d) _ (M.take kk) := hg8
              have S8 := S7.trans (s8.mono (fun d hd => by show 1 ≤ d; have : 100 ≤ d := hd; omega))
              have hM8 := hM7.step s8 (fun d hd h0 => by rw [h0] at hd; exact absurd (show 100 ≤ 0 from hd) (by omega))
              obtain ⟨pg3, kg3, hpg3, _⟩ := hg8.shape
              rw [HLK.out] at hpg3
              subst hpg3
              clear S7 s8 hM7 hC7 ob7
              go_wp2_with fail
              refine (alike_calls hg8 hM8 kk (by rw [HLK.out]; exact Nat.le_refl _) hkk (by rw [List.take_take, Nat.min_self])).mono ?_; rintro e wb ⟨rfl, k9, rfl⟩
              have S9 := S8.drewN k9
              clear hg8 hM8 S8
              go_wp2_with fail
              go_ret
              exact ⟨rfl, S9.below (Nat.le_refl _) (fun _ _ => by decide)⟩
        · have hbn : (by0.toNat : Int) ≠ 0 := fun e => hb0 (UInt8.toNat_inj.1 (by simpa using (by omega : by0.toNat = 0)))
          have zb1 : ((by0.toNat : Int) == 0) = false := by simpa using hbn
          have zb2 : ((by0.toNat : Int) != 0) = true := by simpa using hbn
          have hY : by0 ≠ 0 := hb0
          clear hb0
          go_upto_region 12 with fail
          clear t1 t2 zb1 zb2 hbn
          generalize by0 = Y at *
          obtain ⟨g, cp, hv, hLg, hcl, hfz, ho2, st2⟩ := Own.set ob (j := r) (by simp; exact hrl) (byt (B[r] ^^^ Y))
          cases hv
          have hZ : (B.map byt).set r (byt (B[r] ^^^ Y)) = (B.set r (B[r] ^^^ Y)).map byt := by rw [List.map_set]
          rw [hZ] at ho2
          have hBY := scan_byte (lm := 65536) (lb := 4194304) (Nat.le_refl _) (Nat.le_refl _) M (B.set r (B[r] ^^^ Y)) r HF.out (by rw [← HB.out]; exact differ_set hrl (xor_ne B[r] Y hY))
          rw [List.getElem_map] at hcl
          have hx : byt (B[r] ^^^ Y) = .int .u8 (bits BinOp.xor IntKind.u8 (B[r].toNat : Int) (Y.toNat : Int)) := by
            rw [u8_xor_nat _ _ (UInt8.toNat_lt _) (UInt8.toNat_lt _)]; unfold byt; rw [UInt8.toNat_xor]
          obtain ⟨S', hS'⟩ : ∃ S', S' = B.set r (B[r] ^^^ Y) := ⟨_, rfl⟩
          have hSl : S'.length = B.length := by rw [hS']; simp
          rw [← hS'] at ho2 hBY
          rw [hx] at ho2 st2
          obtain ⟨X, hX⟩ : ∃ X, X = B[r].toNat := ⟨_, rfl⟩
          obtain ⟨Yn, hYn⟩ : ∃ X, X = Y.toNat := ⟨_, rfl⟩
          have hcl2 : w2.cell? ⟨g, r, none⟩ = some (.int .u8 (X : Int)) := by rw [hX]; exact hcl
          clear hcl
          rw [← hX, ← hYn] at ho2 st2
          rw [← hYn]
          have hXb : X < 256 := by rw [hX]; exact UInt8.toNat_lt _
          have hYb : Yn < 256 := by rw [hYn]; exact UInt8.toNat_lt _
          have S3 := S2.trans (st2.mono (by rintro _ rfl; exact Nat.le_refl _))
          have hM3 := hM2.step st2 (fun d hd h0 => by rw [h0] at hd; exact absurd (show 0 = 1 from hd) (by omega))
          have hC3 := hC2.step st2 (by omega)
          have HBY := Lib.hid hBY
          have HSl := Lib.hid hSl
          clear S2 hM2 hC2 ob st2 hBY hX hYn hx hZ hS' hY
          go_wp2_with fail
          generalize w2.setCell ⟨g, r, none⟩ (.int .u8 (bits BinOp.xor IntKind.u8 (X : Int) (Yn : Int))) = w3 at *
          go_loopw [12, 13] (fun n_ at_ wr => ∃ (kk at0 : Nat) (L1 : Nat → Nat), kk ≤ M.length ∧ n_ = .int .i64 kk ∧ at_ = .int .i64 at0 ∧ at0 ≤ r ∧ cnt M r = kk + cnt (M.drop kk) (r - at0) ∧ Step (fun d => d = 50) L2 w3 L1 wr) (fun n_ _ _ => M.length - (intOf n_).toNat)
          case atStart => exact ⟨0, 0, L2, by omega, rfl, rfl, by omega, by rw [List.drop_zero, Nat.zero_add, Nat.sub_zero], Step.refl _ _ _⟩
          case round =>
            obtain ⟨kk, at0, L7, hkk, rfl, rfl, hat, hcn, st7⟩ := hrel
            have S7 := S3.trans (st7.mono (fun d hd => by show 1 ≤ d; have : d = 50 := hd; omega))
            have hM7 := hM3.step st7 (fun d hd h0 => by rw [h0] at hd; exact absurd (show 0 = 50 from hd) (by omega))
            have hC7 := hC3.step st7 (by omega)
            have ob7 := ho2.step st7 (by omega)
            have HCN := Lib.hid hcn
            clear hcn
            by_cases hlt : kk < M.length
            · obtain ⟨b, off, p1, k1, p2, k2, c1, c2, hq, x1, x2, _, _, hc1, hc2, r1, r2⟩ := hM7.cells hlt
              subst hq
              have hfk := HF.out M[kk] (List.getElem_mem hlt)
              have hcd := cnt_drop hlt (r - at0)
              obtain ⟨m, hmk⟩ : ∃ m, m = M[kk] := ⟨_, rfl⟩
              rw [← hmk] at x1 x2 r1 r2 hfk hcd
              obtain ⟨pf1, pf2⟩ := put_fits hfk
              have hml := msg_length 49 m.1 m.2
              have hp1 := padU_ge m.1.length
              have hp2 := padU_ge m.2.length
              obtain ⟨B0, hB0⟩ : ∃ S, S = msgB 49 m.1 m.2 := ⟨_, rfl⟩
              rw [← hB0] at pf2 hml hcd
              have hBl : B0.length ≤ 4300000 := by omega
              have HCD := Lib.hid hcd
              have HF1 := Lib.hid pf1
              have HF2 := Lib.hid pf2
              clear pf1 pf2 hml hp1 hp2 hmk hB0 hcd
              go_wp2_with fail
              refine (fput_calls (c := 50) (by omega) (by omega) r1 r2).mono ?_; rintro e w8 ⟨v8, rfl, L8, s8, o8⟩
              rw [HF1.out]
              rw [HF2.out] at o8
              have st8 := st7.trans s8
              obtain ⟨pb8, kb8, hpb8, _⟩ := ownsRow_shape o8.1
              subst hpb8
              clear o8 x1 x2 r1 r2
              by_cases hgt : r < at0 + B0.length
              · have z1 : decide ((r : Int) < (at0 : Int) + B0.length) = true := by simp; omega
                have hcnt : cnt M r = kk := by rw [HCN.out, HCD.out, if_neg (by omega)]; rfl
                have S7 := S7.trans (s8.mono (fun d hd => by show 1 ≤ d; have : d = 50 := hd; omega))
                have hM7 := hM7.step s8 (fun d hd h0 => by rw [h0] at hd; exact absurd (show 0 = 50 from hd) (by omega))
                have hC7 := hC7.step s8 (by omega)
                have ob7 := ob7.step s8 (by omega)
                clear st7 st8 s8
                have hlk : (M.take kk).length = kk := by rw [List.length_take]; omega
                have hRC : ∃ E, E ≠ 0 ∧ RR S' S'.length = ⟨M.take kk, [], E, false⟩ := by
                  obtain ⟨E, e1, e2⟩ := HBY.out
                  rw [hcnt] at e2
                  exact ⟨E, e1, by unfold RR; rw [List.take_of_length_le (Nat.le_refl _)]; exact e2⟩
                obtain ⟨E, hE0, hRC⟩ := hRC
                have zE : (E != 0) = true := by simpa using hE0
                have HRC := Lib.hid hRC
                have HLK := Lib.hid hlk
                have hsE := standS_err (b := false) (c := true) hE0
                have HSE := Lib.hid hsE
                clear hRC hcnt hlk hE0 hsE
                go_wp2_with fail
                refine (gone_calls 100 true ob7.rd hC7 (by omega) (by omega) HI.out (by omega)).mono ?_; rintro e wa ⟨vg3, rfl, La, s8, hg8⟩
                rw [HRC.out] at hg8 ⊢
                rw [show standS (⟨M.take kk, [], E, false⟩ : Scan).w (⟨M.take kk, [], E, false⟩ : Scan).e true = 4 from HSE.out.1, show standE (⟨M.take kk, [], E, false⟩ : Scan).w (⟨M.take kk, [], E, false⟩ : Scan).e true = E from HSE.out.2]
                have hg8 : MsgsRd La wa (fun d => 100 ≤ d) _ (M.take kk) := hg8
                have S8 := S7.trans (s8.mono (fun d hd => by show 1 ≤ d; have : 100 ≤ d := hd; omega))
                have hM8 := hM7.step s8 (fun d hd h0 => by rw [h0] at hd; exact absurd (show 100 ≤ 0 from hd) (by omega))
                obtain ⟨pg3, kg3, hpg3, _⟩ := hg8.shape
                rw [HLK.out] at hpg3
                subst hpg3
                clear S7 s8 hM7 hC7 ob7
                go_wp2_with fail
                refine (alike_calls hg8 hM8 kk (by rw [HLK.out]; exact Nat.le_refl _) hkk (by rw [List.take_take, Nat.min_self])).mono ?_; rintro e wb ⟨rfl, k9, rfl⟩
                have S9 := S8.drewN k9
                clear hg8 hM8 S8
                go_wp2_with fail
                go_ret
                exact ⟨rfl, S9.below (Nat.le_refl _) (fun _ _ => by decide)⟩
              · have z1 : decide ((r : Int) < (at0 : Int) + B0.length) = false := by simp; omega
                have hcn2 : cnt M r = (kk + 1) + cnt (M.drop (kk + 1)) (r - (at0 + B0.length)) := by rw [HCN.out, HCD.out, if_pos (by omega), Nat.sub_add_eq]; omega
                have HCN2 := Lib.hid hcn2
                clear hcn2 S7 hM7 hC7 ob7 st7 s8
                go_wp2_with fail
                go_roundw
                case rel => exact ⟨kk + 1, at0 + B0.length, L8, by omega, by go_num, by first | rfl | go_num, by omega, HCN2.out, st8⟩
                case measure => simp [intOf]; omega
            · have hkE : kk = M.length := by omega
              have hcnt : cnt M r = kk := by rw [HCN.out, List.drop_of_length_le (by omega)]; rfl
              clear st7 hkE
              have hlk : (M.take kk).length = kk := by rw [List.length_take]; omega
              have hRC : ∃ E, E ≠ 0 ∧ RR S' S'.length = ⟨M.take kk, [], E, false⟩ := by
                obtain ⟨E, e1, e2⟩ := HBY.out
                rw [hcnt] at e2
                exact ⟨E, e1, by unfold RR; rw [List.take_of_length_le (Nat.le_refl _)]; exact e2⟩
              obtain ⟨E, hE0, hRC⟩ := hRC
              have zE : (E != 0) = true := by simpa using hE0
              have HRC := Lib.hid hRC
              have HLK := Lib.hid hlk
              have hsE := standS_err (b := false) (c := true) hE0
              have HSE := Lib.hid hsE
              clear hRC hcnt hlk hE0 hsE
              go_wp2_with fail
              refine (gone_calls 100 true ob7.rd hC7 (by omega) (by omega) HI.out (by omega)).mono ?_; rintro e wa ⟨vg3, rfl, La, s8, hg8⟩
              rw [HRC.out] at hg8 ⊢
              rw [show standS (⟨M.take kk, [], E, false⟩ : Scan).w (⟨M.take kk, [], E, false⟩ : Scan).e true = 4 from HSE.out.1, show standE (⟨M.take kk, [], E, false⟩ : Scan).w (⟨M.take kk, [], E, false⟩ : Scan).e true = E from HSE.out.2]
              have hg8 : MsgsRd La wa (fun d => 100 ≤ d) _ (M.take kk) := hg8
              have S8 := S7.trans (s8.mono (fun d hd => by show 1 ≤ d; have : 100 ≤ d := hd; omega))
              have hM8 := hM7.step s8 (fun d hd h0 => by rw [h0] at hd; exact absurd (show 100 ≤ 0 from hd) (by omega))
              obtain ⟨pg3, kg3, hpg3, _⟩ := hg8.shape
              rw [HLK.out] at hpg3
              subst hpg3
              clear S7 s8 hM7 hC7 ob7
              go_wp2_with fail
              refine (alike_calls hg8 hM8 kk (by rw [HLK.out]; exact Nat.le_refl _) hkk (by rw [List.take_take, Nat.min_self])).mono ?_; rintro e wb ⟨rfl, k9, rfl⟩
              have S9 := S8.drewN k9
              clear hg8 hM8 S8
              go_wp2_with fail
              go_ret
              exact ⟨rfl, S9.below (Nat.le_refl _) (fun _ _ => by decide)⟩
      · have zn : decide (short < 0) = false := by simpa using hneg
        have hge : 0 ≤ short := by omega
        have HGE := Lib.hid hge
        clear hs1 hs2 hneg hge
        go_upto_region 9 with fail
        obtain ⟨s1, rfl⟩ := Int.eq_ofNat_of_zero_le HGE.out
        clear zn HGE
        obtain ⟨r, hr0⟩ : ∃ r, r = s1 % B.length := ⟨_, rfl⟩
        have hrl : r < B.length := by rw [hr0]; exact Nat.mod_lt _ (by omega)
        have t1 : (s1 : Int) % (B.length : Int) = (r : Int) := by rw [hr0]; exact (Int.natCast_emod s1 B.length).symm
        have t2 : Int.tmod (s1 : Int) (B.length : Int) = (r : Int) := by rw [Int.tmod_eq_emod_of_nonneg (by omega)]; exact t1
        clear hr0
        by_cases hb0 : by0 = 0
        · have e0 : (by0.toNat : Int) = 0 := by rw [hb0]; rfl
          rw [e0]
          clear e0 hb0
          have hY : (1 : UInt8) ≠ 0 := by decide
          go_upto_region 12 with fail
          clear t1 t2
          rw [show (1 : Int) = (((1 : UInt8).toNat : Nat) : Int) from rfl]
          generalize (1 : UInt8) = Y at *
          obtain ⟨g, cp, hv, hLg, hcl, hfz, ho2, st2⟩ := Own.set ob (j := r) (by simp; exact hrl) (byt (B[r] ^^^ Y))
          cases hv
          have hZ : (B.map byt).set r (byt (B[r] ^^^ Y)) = (B.set r (B[r] ^^^ Y)).map byt := by rw [List.map_set]
          rw [hZ] at ho2
          have hBY := scan_byte (lm := 65536) (lb := 4194304) (Nat.le_refl _) (Nat.le_refl _) M (B.set r (B[r] ^^^ Y)) r HF.out (by rw [← HB.out]; exact differ_set hrl (xor_ne B[r] Y hY))
          rw [List.getElem_map] at hcl
          have hx : byt (B[r] ^^^ Y) = .int .u8 (bits BinOp.xor IntKind.u8 (B[r].toNat : Int) (Y.toNat : Int)) := by
            rw [u8_xor_nat _ _ (UInt8.toNat_lt _) (UInt8.toNat_lt _)]; unfold byt; rw [UInt8.toNat_xor]
          obtain ⟨S', hS'⟩ : ∃ S', S' = B.set r (B[r] ^^^ Y) := ⟨_, rfl⟩
          have hSl : S'.length = B.length := by rw [hS']; simp
          rw [← hS'] at ho2 hBY
          rw [hx] at ho2 st2
          obtain ⟨X, hX⟩ : ∃ X, X = B[r].toNat := ⟨_, rfl⟩
          obtain ⟨Yn, hYn⟩ : ∃ X, X = Y.toNat := ⟨_, rfl⟩
          have hcl2 : w2.cell? ⟨g, r, none⟩ = some (.int .u8 (X : Int)) := by rw [hX]; exact hcl
          clear hcl
          rw [← hX, ← hYn] at ho2 st2
          rw [← hYn]
          have hXb : X < 256 := by rw [hX]; exact UInt8.toNat_lt _
          have hYb : Yn < 256 := by rw [hYn]; exact UInt8.toNat_lt _
          have S3 := S2.trans (st2.mono (by rintro _ rfl; exact Nat.le_refl _))
          have hM3 := hM2.step st2 (fun d hd h0 => by rw [h0] at hd; exact absurd (show 0 = 1 from hd) (by omega))
          have hC3 := hC2.step st2 (by omega)
          have HBY := Lib.hid hBY
          have HSl := Lib.hid hSl
          clear S2 hM2 hC2 ob st2 hBY hX hYn hx hZ hS' hY
          go_wp2_with fail
          generalize w2.setCell ⟨g, r, none⟩ (.int .u8 (bits BinOp.xor IntKind.u8 (X : Int) (Yn : Int))) = w3 at *
          go_loopw [12, 13] (fun n_ at_ wr => ∃ (kk at0 : Nat) (L1 : Nat → Nat), kk ≤ M.length ∧ n_ = .int .i64 kk ∧ at_ = .int .i64 at0 ∧ at0 ≤ r ∧ cnt M r = kk + cnt (M.drop kk) (r - at0) ∧ Step (fun d => d = 50) L2 w3 L1 wr) (fun n_ _ _ => M.length - (intOf n_).toNat)
          case atStart => exact ⟨0, 0, L2, by omega, rfl, rfl, by omega, by rw [List.drop_zero, Nat.zero_add, Nat.sub_zero], Step.refl _ _ _⟩
          case round =>
            obtain ⟨kk, at0, L7, hkk, rfl, rfl, hat, hcn, st7⟩ := hrel
            have S7 := S3.trans (st7.mono (fun d hd => by show 1 ≤ d; have : d = 50 := hd; omega))
            have hM7 := hM3.step st7 (fun d hd h0 => by rw [h0] at hd; exact absurd (show 0 = 50 from hd) (by omega))
            have hC7 := hC3.step st7 (by omega)
            have ob7 := ho2.step st7 (by omega)
            have HCN := Lib.hid hcn
            clear hcn
            by_cases hlt : kk < M.length
            · obtain ⟨b, off, p1, k1, p2, k2, c1, c2, hq, x1, x2, _, _, hc1, hc2, r1, r2⟩ := hM7.cells hlt
              subst hq
              have hfk := HF.out M[kk] (List.getElem_mem hlt)
              have hcd := cnt_drop hlt (r - at0)
              obtain ⟨m, hmk⟩ : ∃ m, m = M[kk] := ⟨_, rfl⟩
              rw [← hmk] at x1 x2 r1 r2 hfk hcd
              obtain ⟨pf1, pf2⟩ := put_fits hfk
              have hml := msg_length 49 m.1 m.2
              have hp1 := padU_ge m.1.length
              have hp2 := padU_ge m.2.length
              obtain ⟨B0, hB0⟩ : ∃ S, S = msgB 49 m.1 m.2 := ⟨_, rfl⟩
              rw [← hB0] at pf2 hml hcd
              have hBl : B0.length ≤ 4300000 := by omega
              have HCD := Lib.hid hcd
              have HF1 := Lib.hid pf1
              have HF2 := Lib.hid pf2
              clear pf1 pf2 hml hp1 hp2 hmk hB0 hcd
              go_wp2_with fail
              refine (fput_calls (c := 50) (by omega) (by omega) r1 r2).mono ?_; rintro e w8 ⟨v8, rfl, L8, s8, o8⟩
              rw [HF1.out]
              rw [HF2.out] at o8
              have st8 := st7.trans s8
              obtain ⟨pb8, kb8, hpb8, _⟩ := ownsRow_shape o8.1
              subst hpb8
              clear o8 x1 x2 r1 r2
              by_cases hgt : r < at0 + B0.length
              · have z1 : decide ((r : Int) < (at0 : Int) + B0.length) = true := by simp; omega
                have hcnt : cnt M r = kk := by rw [HCN.out, HCD.out, if_neg (by omega)]; rfl
                have S7 := S7.trans (s8.mono (fun d hd => by show 1 ≤ d; have : d = 50 := hd; omega))
                have hM7 := hM7.step s8 (fun d hd h0 => by rw [h0] at hd; exact absurd (show 0 = 50 from hd) (by omega))
                have hC7 := hC7.step s8 (by omega)
                have ob7 := ob7.step s8 (by omega)
                clear st7 st8 s8
                have hlk : (M.take kk).length = kk := by rw [List.length_take]; omega
                have hRC : ∃ E, E ≠ 0 ∧ RR S' S'.length = ⟨M.take kk, [], E, false⟩ := by
                  obtain ⟨E, e1, e2⟩ := HBY.out
                  rw [hcnt] at e2
                  exact ⟨E, e1, by unfold RR; rw [List.take_of_length_le (Nat.le_refl _)]; exact e2⟩
                obtain ⟨E, hE0, hRC⟩ := hRC
                have zE : (E != 0) = true := by simpa using hE0
                have HRC := Lib.hid hRC
                have HLK := Lib.hid hlk
                have hsE := standS_err (b := false) (c := true) hE0
                have HSE := Lib.hid hsE
                clear hRC hcnt hlk hE0 hsE
                go_wp2_with fail
                refine (gone_calls 100 true ob7.rd hC7 (by omega) (by omega) HI.out (by omega)).mono ?_; rintro e wa ⟨vg3, rfl, La, s8, hg8⟩
                rw [HRC.out] at hg8 ⊢
                rw [show standS (⟨M.take kk, [], E, false⟩ : Scan).w (⟨M.take kk, [], E, false⟩ : Scan).e true = 4 from HSE.out.1, show standE (⟨M.take kk, [], E, false⟩ : Scan).w (⟨M.take kk, [], E, false⟩ : Scan).e true = E from HSE.out.2]
                have hg8 : MsgsRd La wa (fun d => 100 ≤ d) _ (M.take kk) := hg8
                have S8 := S7.trans (s8.mono (fun d hd => by show 1 ≤ d; have : 100 ≤ d := hd; omega))
                have hM8 := hM7.step s8 (fun d hd h0 => by rw [h0] at hd; exact absurd (show 100 ≤ 0 from hd) (by omega))
                obtain ⟨pg3, kg3, hpg3, _⟩ := hg8.shape
                rw [HLK.out] at hpg3
                subst hpg3
                clear S7 s8 hM7 hC7 ob7
                go_wp2_with fail
                refine (alike_calls hg8 hM8 kk (by rw [HLK.out]; exact Nat.le_refl _) hkk (by rw [List.take_take, Nat.min_self])).mono ?_; rintro e wb ⟨rfl, k9, rfl⟩
                have S9 := S8.drewN k9
                clear hg8 hM8 S8
                go_wp2_with fail
                go_ret
                exact ⟨rfl, S9.below (Nat.le_refl _) (fun _ _ => by decide)⟩
              · have z1 : decide ((r : Int) < (at0 : Int) + B0.length) = false := by simp; omega
                have hcn2 : cnt M r = (kk + 1) + cnt (M.drop (kk + 1)) (r - (at0 + B0.length)) := by rw [HCN.out, HCD.out, if_pos (by omega), Nat.sub_add_eq]; omega
                have HCN2 := Lib.hid hcn2
                clear hcn2 S7 hM7 hC7 ob7 st7 s8
                go_wp2_with fail
                go_roundw
                case rel => exact ⟨kk + 1, at0 + B0.length, L8, by omega, by go_num, by first | rfl | go_num, by omega, HCN2.out, st8⟩
                case measure => simp [intOf]; omega
            · have hkE : kk = M.length := by omega
              have hcnt : cnt M r = kk := by rw [HCN.out, List.drop_of_length_le (by omega)]; rfl
              clear st7 hkE
              have hlk : (M.take kk).length = kk := by rw [List.length_take]; omega
              have hRC : ∃ E, E ≠ 0 ∧ RR S' S'.length = ⟨M.take kk, [], E, false⟩ := by
                obtain ⟨E, e1, e2⟩ := HBY.out
                rw [hcnt] at e2
                exact ⟨E, e1, by unfold RR; rw [List.take_of_length_le (Nat.le_refl _)]; exact e2⟩
              obtain ⟨E, hE0, hRC⟩ := hRC
              have zE : (E != 0) = true := by simpa using hE0
              have HRC := Lib.hid hRC
              have HLK := Lib.hid hlk
              have hsE := standS_err (b := false) (c := true) hE0
              have HSE := Lib.hid hsE
              clear hRC hcnt hlk hE0 hsE
              go_wp2_with fail
              refine (gone_calls 100 true ob7.rd hC7 (by omega) (by omega) HI.out (by omega)).mono ?_; rintro e wa ⟨vg3, rfl, La, s8, hg8⟩
              rw [HRC.out] at hg8 ⊢
              rw [show standS (⟨M.take kk, [], E, false⟩ : Scan).w (⟨M.take kk, [], E, false⟩ : Scan).e true = 4 from HSE.out.1, show standE (⟨M.take kk, [], E, false⟩ : Scan).w (⟨M.take kk, [], E, false⟩ : Scan).e true = E from HSE.out.2]
              have hg8 : MsgsRd La wa (fun d => 100 ≤ d) _ (M.take kk) := hg8
              have S8 := S7.trans (s8.mono (fun d hd => by show 1 ≤ d; have : 100 ≤ d := hd; omega))
              have hM8 := hM7.step s8 (fun d hd h0 => by rw [h0] at hd; exact absurd (show 100 ≤ 0 from hd) (by omega))
              obtain ⟨pg3, kg3, hpg3, _⟩ := hg8.shape
              rw [HLK.out] at hpg3
              subst hpg3
              clear S7 s8 hM7 hC7 ob7
              go_wp2_with fail
              refine (alike_calls hg8 hM8 kk (by rw [HLK.out]; exact Nat.le_refl _) hkk (by rw [List.take_take, Nat.min_self])).mono ?_; rintro e wb ⟨rfl, k9, rfl⟩
              have S9 := S8.drewN k9
              clear hg8 hM8 S8
              go_wp2_with fail
              go_ret
              exact ⟨rfl, S9.below (Nat.le_refl _) (fun _ _ => by decide)⟩
        · have hbn : (by0.toNat : Int) ≠ 0 := fun e => hb0 (UInt8.toNat_inj.1 (by simpa using (by omega : by0.toNat = 0)))
          have zb1 : ((by0.toNat : Int) == 0) = false := by simpa using hbn
          have zb2 : ((by0.toNat : Int) != 0) = true := by simpa using hbn
          have hY : by0 ≠ 0 := hb0
          clear hb0
          go_upto_region 12 with fail
          clear t1 t2 zb1 zb2 hbn
          generalize by0 = Y at *
          obtain ⟨g, cp, hv, hLg, hcl, hfz, ho2, st2⟩ := Own.set ob (j := r) (by simp; exact hrl) (byt (B[r] ^^^ Y))
          cases hv
          have hZ : (B.map byt).set r (byt (B[r] ^^^ Y)) = (B.set r (B[r] ^^^ Y)).map byt := by rw [List.map_set]
          rw [hZ] at ho2
          have hBY := scan_byte (lm := 65536) (lb := 4194304) (Nat.le_refl _) (Nat.le_refl _) M (B.set r (B[r] ^^^ Y)) r HF.out (by rw [← HB.out]; exact differ_set hrl (xor_ne B[r] Y hY))
          rw [List.getElem_map] at hcl
          have hx : byt (B[r] ^^^ Y) = .int .u8 (bits BinOp.xor IntKind.u8 (B[r].toNat : Int) (Y.toNat : Int)) := by
            rw [u8_xor_nat _ _ (UInt8.toNat_lt _) (UInt8.toNat_lt _)]; unfold byt; rw [UInt8.toNat_xor]
          obtain ⟨S', hS'⟩ : ∃ S', S' = B.set r (B[r] ^^^ Y) := ⟨_, rfl⟩
          have hSl : S'.length = B.length := by rw [hS']; simp
          rw [← hS'] at ho2 hBY
          rw [hx] at ho2 st2
          obtain ⟨X, hX⟩ : ∃ X, X = B[r].toNat := ⟨_, rfl⟩
          obtain ⟨Yn, hYn⟩ : ∃ X, X = Y.toNat := ⟨_, rfl⟩
          have hcl2 : w2.cell? ⟨g, r, none⟩ = some (.int .u8 (X : Int)) := by rw [hX]; exact hcl
          clear hcl
          rw [← hX, ← hYn] at ho2 st2
          rw [← hYn]
          have hXb : X < 256 := by rw [hX]; exact UInt8.toNat_lt _
          have hYb : Yn < 256 := by rw [hYn]; exact UInt8.toNat_lt _
          have S3 := S2.trans (st2.mono (by rintro _ rfl; exact Nat.le_refl _))
          have hM3 := hM2.step st2 (fun d hd h0 => by rw [h0] at hd; exact absurd (show 0 = 1 from hd) (by omega))
          have hC3 := hC2.step st2 (by omega)
          have HBY := Lib.hid hBY
          have HSl := Lib.hid hSl
          clear S2 hM2 hC2 ob st2 hBY hX hYn hx hZ hS' hY
          go_wp2_with fail
          generalize w2.setCell ⟨g, r, none⟩ (.int .u8 (bits BinOp.xor IntKind.u8 (X : Int) (Yn : Int))) = w3 at *
          go_loopw [12, 13] (fun n_ at_ wr => ∃ (kk at0 : Nat) (L1 : Nat → Nat), kk ≤ M.length ∧ n_ = .int .i64 kk ∧ at_ = .int .i64 at0 ∧ at0 ≤ r ∧ cnt M r = kk + cnt (M.drop kk) (r - at0) ∧ Step (fun d => d = 50) L2 w3 L1 wr) (fun n_ _ _ => M.length - (intOf n_).toNat)
          case atStart => exact ⟨0, 0, L2, by omega, rfl, rfl, by omega, by rw [List.drop_zero, Nat.zero_add, Nat.sub_zero], Step.refl _ _ _⟩
          case round =>
            obtain ⟨kk, at0, L7, hkk, rfl, rfl, hat, hcn, st7⟩ := hrel
            have S7 := S3.trans (st7.mono (fun d hd => by show 1 ≤ d; have : d = 50 := hd; omega))
            have hM7 := hM3.step st7 (fun d hd h0 => by rw [h0] at hd; exact absurd (show 0 = 50 from hd) (by omega))
            have hC7 := hC3.step st7 (by omega)
            have ob7 := ho2.step st7 (by omega)
            have HCN := Lib.hid hcn
            clear hcn
            by_cases hlt : kk < M.length
            · obtain ⟨b, off, p1, k1, p2, k2, c1, c2, hq, x1, x2, _, _, hc1, hc2, r1, r2⟩ := hM7.cells hlt
              subst hq
              have hfk := HF.out M[kk] (List.getElem_mem hlt)
              have hcd := cnt_drop hlt (r - at0)
              obtain ⟨m, hmk⟩ : ∃ m, m = M[kk] := ⟨_, rfl⟩
              rw [← hmk] at x1 x2 r1 r2 hfk hcd
              obtain ⟨pf1, pf2⟩ := put_fits hfk
              have hml := msg_length 49 m.1 m.2
              have hp1 := padU_ge m.1.length
              have hp2 := padU_ge m.2.length
              obtain ⟨B0, hB0⟩ : ∃ S, S = msgB 49 m.1 m.2 := ⟨_, rfl⟩
              rw [← hB0] at pf2 hml hcd
              have hBl : B0.length ≤ 4300000 := by omega
              have HCD := Lib.hid hcd
              have HF1 := Lib.hid pf1
              have HF2 := Lib.hid pf2
              clear pf1 pf2 hml hp1 hp2 hmk hB0 hcd
              go_wp2_with fail
              refine (fput_calls (c := 50) (by omega) (by omega) r1 r2).mono ?_; rintro e w8 ⟨v8, rfl, L8, s8, o8⟩
              rw [HF1.out]
              rw [HF2.out] at o8
              have st8 := st7.trans s8
              obtain ⟨pb8, kb8, hpb8, _⟩ := ownsRow_shape o8.1
              subst hpb8
              clear o8 x1 x2 r1 r2
              by_cases hgt : r < at0 + B0.length
              · have z1 : decide ((r : Int) < (at0 : Int) + B0.length) = true := by simp; omega
                have hcnt : cnt M r = kk := by rw [HCN.out, HCD.out, if_neg (by omega)]; rfl
                have S7 := S7.trans (s8.mono (fun d hd => by show 1 ≤ d; have : d = 50 := hd; omega))
                have hM7 := hM7.step s8 (fun d hd h0 => by rw [h0] at hd; exact absurd (show 0 = 50 from hd) (by omega))
                have hC7 := hC7.step s8 (by omega)
                have ob7 := ob7.step s8 (by omega)
                clear st7 st8 s8
                have hlk : (M.take kk).length = kk := by rw [List.length_take]; omega
                have hRC : ∃ E, E ≠ 0 ∧ RR S' S'.length = ⟨M.take kk, [], E, false⟩ := by
                  obtain ⟨E, e1, e2⟩ := HBY.out
                  rw [hcnt] at e2
                  exact ⟨E, e1, by unfold RR; rw [List.take_of_length_le (Nat.le_refl _)]; exact e2⟩
                obtain ⟨E, hE0, hRC⟩ := hRC
                have zE : (E != 0) = true := by simpa using hE0
                have HRC := Lib.hid hRC
                have HLK := Lib.hid hlk
                have hsE := standS_err (b := false) (c := true) hE0
                have HSE := Lib.hid hsE
                clear hRC hcnt hlk hE0 hsE
                go_wp2_with fail
                refine (gone_calls 100 true ob7.rd hC7 (by omega) (by omega) HI.out (by omega)).mono ?_; rintro e wa ⟨vg3, rfl, La, s8, hg8⟩
                rw [HRC.out] at hg8 ⊢
                rw [show standS (⟨M.take kk, [], E, false⟩ : Scan).w (⟨M.take kk, [], E, false⟩ : Scan).e true = 4 from HSE.out.1, show standE (⟨M.take kk, [], E, false⟩ : Scan).w (⟨M.take kk, [], E, false⟩ : Scan).e true = E from HSE.out.2]
                have hg8 : MsgsRd La wa (fun d => 100 ≤ d) _ (M.take kk) := hg8
                have S8 := S7.trans (s8.mono (fun d hd => by show 1 ≤ d; have : 100 ≤ d := hd; omega))
                have hM8 := hM7.step s8 (fun d hd h0 => by rw [h0] at hd; exact absurd (show 100 ≤ 0 from hd) (by omega))
                obtain ⟨pg3, kg3, hpg3, _⟩ := hg8.shape
                rw [HLK.out] at hpg3
                subst hpg3
                clear S7 s8 hM7 hC7 ob7
                go_wp2_with fail
                refine (alike_calls hg8 hM8 kk (by rw [HLK.out]; exact Nat.le_refl _) hkk (by rw [List.take_take, Nat.min_self])).mono ?_; rintro e wb ⟨rfl, k9, rfl⟩
                have S9 := S8.drewN k9
                clear hg8 hM8 S8
                go_wp2_with fail
                go_ret
                exact ⟨rfl, S9.below (Nat.le_refl _) (fun _ _ => by decide)⟩
              · have z1 : decide ((r : Int) < (at0 : Int) + B0.length) = false := by simp; omega
                have hcn2 : cnt M r = (kk + 1) + cnt (M.drop (kk + 1)) (r - (at0 + B0.length)) := by rw [HCN.out, HCD.out, if_pos (by omega), Nat.sub_add_eq]; omega
                have HCN2 := Lib.hid hcn2
                clear hcn2 S7 hM7 hC7 ob7 st7 s8
                go_wp2_with fail
                go_roundw
                case rel => exact ⟨kk + 1, at0 + B0.length, L8, by omega, by go_num, by first | rfl | go_num, by omega, HCN2.out, st8⟩
                case measure => simp [intOf]; omega
            · have hkE : kk = M.length := by omega
              have hcnt : cnt M r = kk := by rw [HCN.out, List.drop_of_length_le (by omega)]; rfl
              clear st7 hkE
              have hlk : (M.take kk).length = kk := by rw [List.length_take]; omega
              have hRC : ∃ E, E ≠ 0 ∧ RR S' S'.length = ⟨M.take kk, [], E, false⟩ := by
                obtain ⟨E, e1, e2⟩ := HBY.out
                rw [hcnt] at e2
                exact ⟨E, e1, by unfold RR; rw [List.take_of_length_le (Nat.le_refl _)]; exact e2⟩
              obtain ⟨E, hE0, hRC⟩ := hRC
              have zE : (E != 0) = true := by simpa using hE0
              have HRC := Lib.hid hRC
              have HLK := Lib.hid hlk
              have hsE := standS_err (b := false) (c := true) hE0
              have HSE := Lib.hid hsE
              clear hRC hcnt hlk hE0 hsE
              go_wp2_with fail
              refine (gone_calls 100 true ob7.rd hC7 (by omega) (by omega) HI.out (by omega)).mono ?_; rintro e wa ⟨vg3, rfl, La, s8, hg8⟩
              rw [HRC.out] at hg8 ⊢
              rw [show standS (⟨M.take kk, [], E, false⟩ : Scan).w (⟨M.take kk, [], E, false⟩ : Scan).e true = 4 from HSE.out.1, show standE (⟨M.take kk, [], E, false⟩ : Scan).w (⟨M.take kk, [], E, false⟩ : Scan).e true = E from HSE.out.2]
              have hg8 : MsgsRd La wa (fun d => 100 ≤ d) _ (M.take kk) := hg8
              have S8 := S7.trans (s8.mono (fun d hd => by show 1 ≤ d; have : 100 ≤ d := hd; omega))
              have hM8 := hM7.step s8 (fun d hd h0 => by rw [h0] at hd; exact absurd (show 100 ≤ 0 from hd) (by omega))
              obtain ⟨pg3, kg3, hpg3, _⟩ := hg8.shape
              rw [HLK.out] at hpg3
              subst hpg3
              clear S7 s8 hM7 hC7 ob7
              go_wp2_with fail
              refine (alike_calls hg8 hM8 kk (by rw [HLK.out]; exact Nat.le_refl _) hkk (by rw [List.take_take, Nat.min_self])).mono ?_; rintro e wb ⟨rfl, k9, rfl⟩
              have S9 := S8.drewN k9
              clear hg8 hM8 S8
              go_wp2_with fail
              go_ret
              exact ⟨rfl, S9.below (Nat.le_refl _) (fun _ _ => by decide)⟩

end Go.Proofs.Ytcebdodogbpglab.Rdr
