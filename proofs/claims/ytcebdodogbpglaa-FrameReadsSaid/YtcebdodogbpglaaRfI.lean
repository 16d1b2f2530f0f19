import Derived.Test.YtcebdodogbpglaaRfH
set_option linter.unusedVariables false
set_option maxRecDepth 100000
/-! THE WALK OF FRAMEREADS. -/
namespace Go.Proofs.Ytcebdodogbpglaa.Rdr
open Go.ChangeShapes Go.WideShapes Go.ChangeAt Go.RowKit Mem Put

theorem lend_put {L : Nat → Nat} {w : World} {g n j : Nat} {Y : List UInt8} (h : Own L 5 w 5 1 (.slice (some ⟨g, 0, none⟩) (n + 3) (n + 3)) (n + 3) (Y.map byt)) (hj : j < n) :
    ∃ u : Nat, u < 256 ∧ w.cell? ⟨g, j, none⟩ = some (.int .u8 (u : Int)) ∧ w.frozen? ⟨g, j, none⟩ = false ∧
      ∃ Y' : List UInt8, Own L 5 (w.setCell ⟨g, j, none⟩ (.int .u8 (((u : Int) + 1) % 256))) 5 1 (.slice (some ⟨g, 0, none⟩) (n + 3) (n + 3)) (n + 3) (Y'.map byt) ∧ Step (· = 5) L w L (w.setCell ⟨g, j, none⟩ (.int .u8 (((u : Int) + 1) % 256))) := by
  have hl : Y.length = n + 3 := by have := h.length; simpa using this
  have hx : j < (Y.map byt).length := by simp; omega
  obtain ⟨g', cp, hv, hL, hc, hf, ho, st⟩ := Own.set h hx (byt (Y[j]'(by omega) + 1))
  cases hv
  refine ⟨(Y[j]'(by omega)).toNat, UInt8.toNat_lt _, ?_, hf, Y.set j (Y[j]'(by omega) + 1), ?_⟩
  · rw [hc]; simp only [List.getElem_map]; rfl
  · rw [byt_succ] at ho st
    refine ⟨?_, st⟩
    rw [← byt_succ, ← List.map_set] at ho
    exact ho

theorem _root_.Go.Proofs.Ytcebdodogbpglaa.Mem.Rd.plain {L : Nat → Nat} {c size n : Nat} {w : World} {v : Value} {xs : List Value} (h : Rd L c w size v n xs) : Rd (fun _ => c) c w size v n xs := by
  obtain ⟨h1, q, k, hv, hn, hm, hc⟩ := h
  refine ⟨h1, q, k, hv, hn, hm, fun j u hj => ?_⟩
  obtain ⟨b, off, e1, _, e3⟩ := hc j u hj
  exact ⟨b, off, e1, rfl, e3⟩
theorem ScriptRd.step {C : Nat → Prop} {w w' : World} {L' : Nat → Nat} {v : Value} {S : List Step2} (h : ScriptRd w v S) (st : Step C (fun _ => 0) w L' w') (hC : ¬ C 0) : ScriptRd w' v S := by
  obtain ⟨vs, h0, h1, h2⟩ := h
  exact ⟨vs, h0, (h1.step st hC).plain, fun i hi hi2 => ⟨((h2 i hi hi2).1.step st hC).plain, (h2 i hi hi2).2⟩⟩

theorem totS_mono (S : List Step2) (k : Nat) : totS (S.take k) ≤ totS S := by
  have h := List.take_append_drop k S
  have : totS S = totS (S.take k) + totS (S.drop k) := by
    conv => lhs; rw [← h]
    unfold totS; rw [List.map_append, List.sum_append_nat]
  omega

set_option maxHeartbeats 4000000 in
theorem reads_walk {w : World} (a b : Int) (ha : -9223372036854775808 ≤ a ∧ a ≤ 9223372036854775807) (hb : -9223372036854775808 ≤ b ∧ b ≤ 9223372036854775807) {v : Value} {S : List Step2} (hS : ScriptRd w v S) :
    Calls Try.prog 7 #[.agg #[.int .i64 a, .int .i64 b], v] w fun e w' => e = .returned (.bool true) ∧ Below w.heap.size w w' := by
  obtain ⟨q, cap, rfl, hn, hm⟩ := hS.shape
  unfold maxLen at hm
  obtain ⟨B, hB⟩ : ∃ B, B = badLim a b := ⟨_, rfl⟩
  have HB := Lib.hid hB
  clear hB
  have s0 := Step.of_below (L := fun _ => 0) (below_alloc w (.cells #[.int .i64 a, .int .i64 b] 40)) (fun d => 1 ≤ d) 9
  have B0 : Cells (ext (fun _ => 0) w.heap.size 9) (w.alloc (.cells #[.int .i64 a, .int .i64 b] 40)) w.heap.size 9 [.int .i64 a, .int .i64 b] := (Cells.new (fun _ => 0) w 9 40 [.int .i64 a, .int .i64 b]).2
  have HS := Lib.hid hS
  clear hS
  go_enter Try.func7, Try.ntmps7
  go_wp2_with fail
  refine (new_calls (ext (fun _ => 0) w.heap.size 9) 40 _ 0 0 (by omega) (by omega)).mono ?_; rintro e w1 ⟨r1, rfl, L1, s1, hR1⟩
  have S1 := s0.trans (s1.mono (fun _ x => x.elim))
  have B1 := B0.step s1 (fun x => x)
  clear s0 s1 B0
  generalize hab : w.heap.size = ab at *
  have HAB := Lib.hid hab
  clear hab
  go_wp2_with fail
  refine (next_none hR1 (by omega)).mono ?_; rintro e w2 ⟨rfl, b2⟩
  rw [show standS 0 false false = 1 from rfl, show standE 0 false false = 0 from rfl]
  have s2 := Step.of_below (L := L1) b2 (fun _ => False) 9
  have S2 := S1.trans (s2.mono (fun _ x => x.elim))
  have B2 := B1.step s2 (fun x => x)
  have s3 := Step.of_below (L := ext L1 w1.heap.size 9) (below_alloc w2 (.cells #[.slice none 0 0, .slice none 0 0] 25)) (fun _ => False) 9
  have S3 := S2.trans (s3.mono (fun _ x => x.elim))
  have B3 := B2.step s3 (fun x => x)
  generalize ext (ext L1 w1.heap.size 9) w2.heap.size 9 = L3 at *
  clear S1 s2 S2 B2 s3 B1 hR1 b2
  go_wp2_with fail
  obtain ⟨w3, hw3⟩ : ∃ w3, w3 = w2.alloc (.cells #[.slice none 0 0, .slice none 0 0] 25) := ⟨_, rfl⟩
  rw [← hw3] at S3 B3 ⊢
  clear hw3
  have hS3 := HS.out.step S3 (by simp)
  have fin : ∀ (L' : Nat → Nat) (w' : World), Step (fun d => 1 ≤ d) (fun _ => 0) w L' w' → Below w.heap.size w w' := fun L' w' st =>
    st.below (Nat.le_refl _) (fun k _ => by simp)
  have FIN := Lib.hid fin
  clear fin
  refine (over_calls hS3).mono ?_; rintro e w4 ⟨o, rfl, ho, hw4⟩
  have hw4 := hw4.symm
  subst hw4
  cases o with
  | true =>
    clear ho
    go_wp2_with fail
    go_ret
    exact ⟨rfl, FIN.out _ _ S3⟩
  | false =>
    have ho := ho rfl
    have HO := Lib.hid ho
    clear ho hS3
    have k0 := B3.2.2 0 _ rfl
    have k1 := B3.2.2 1 _ rfl
    cases B with
    | true =>
      go_wp2_with fail
      refine (fnew_bad _ a b ha hb HB.out.symm).mono ?_; rintro e w5 ⟨rfl, b5⟩
      have s5 := Step.of_below (L := L3) b5 (fun _ => False) 9
      have S5 := S3.trans (s5.mono (fun _ x => x.elim))
      have B5 := B3.step s5 (fun x => x)
      have k0 := B5.2.2 0 _ rfl
      have k1 := B5.2.2 1 _ rfl
      clear B3 S3 s5 b5
      go_wp2_with fail
      refine (rnew_bad _ a b ha hb HB.out.symm).mono ?_; rintro e w6 ⟨rfl, b6⟩
      have S6 := S5.trans (Step.of_below b6 (fun d => 1 ≤ d) 9)
      clear S5 b6 B5 k0 k1
      go_wp2_with fail
      go_ret
      exact ⟨rfl, FIN.out _ _ S6⟩
    | false =>
      have hlim : (0 ≤ a ∧ a ≤ 65536) ∧ 0 ≤ b ∧ b ≤ 4194304 := by
        have := HB.out
        unfold badLim at this
        simp at this
        omega
      obtain ⟨lm, hlm⟩ := Int.eq_ofNat_of_zero_le hlim.1.1
      obtain ⟨lb, hlb⟩ := Int.eq_ofNat_of_zero_le hlim.2.1
      subst hlm hlb
      have hlm : lm ≤ 65536 := by omega
      have hlb : lb ≤ 4194304 := by omega
      clear hlim HB ha hb
      go_wp2_with fail
      refine (new_calls L3 30 _ lm lb hlm hlb).mono ?_; rintro e w5 ⟨rb, rfl, L5, s5, hR5⟩
      have S5 := S3.trans (s5.mono (fun _ x => x.elim))
      have B5 := B3.step s5 (fun x => x)
      have k0 := B5.2.2 0 _ rfl
      have k1 := B5.2.2 1 _ rfl
      clear B3 S3 s5
      go_wp2_with fail
      refine (rnew_calls L5 10 _ lm lb hlm hlb).mono ?_; rintro e w6 ⟨xb, rfl, L6, s6, hX6⟩
      have S6 := S5.trans (s6.mono (fun _ x => x.elim))
      have hR6 := hR5.step s6 (fun _ x => x.elim)
      clear B5 S5 s6 hR5 k0 k1
      go_wp2_with fail
      obtain ⟨kb, hkb⟩ : ∃ kb, kb = w6.heap.size := ⟨_, rfl⟩
      obtain ⟨w7, hw7⟩ : ∃ w7, w7 = w6.alloc (.cells #[.slice none 0 0, .slice none 0 0, .slice none 0 0, .slice none 0 0] 34) := ⟨_, rfl⟩
      have hB0 : BookAt (ext L6 kb 20) 20 w7 kb [] [] [] [] := by
        rw [hw7, hkb]
        exact ⟨_, _, _, _, heap_alloc_new _ _, ext_new (Nat.le_refl _), Own.nil _ _ _ _ _, Own.nil _ _ _ _ _, Own.nil _ _ _ _ _, Own.nil _ _ _ _ _⟩
      have s7 : Step (fun _ => False) L6 w6 (ext L6 kb 20) w7 := by rw [hw7, hkb]; exact Step.of_below (below_alloc _ _) _ 20
      rw [← hw7, ← hkb]
      have hP0 : Play w kb rb xb lm lb 50 (ext L6 kb 20) w7 [] false false 0 0 [] [] 0 0 false [] :=
        ⟨S6.trans (s7.mono (fun _ x => x.elim)), hB0, hR6.step s7 (fun _ x => x.elim), hX6.step s7 (fun _ x => x.elim), scan_nil _, Nat.le_refl _, fun _ => rfl, by simp, fun m hm => by (cases hm), fun i hi => absurd hi (by simp), by simp [colsQ], fun c hc => by (simp [colsQ] at hc), Nat.le_refl _, fun i hi => absurd hi (by simp)⟩
      have HP0 := Lib.hid hP0
      clear hP0 s7 hB0 hw7 hkb hR6 hX6 S6
      generalize ext L6 kb 20 = L7 at *
      go_loopw [15] (fun i wr => ∃ (k K : Nat) (L : Nat → Nat) (F : List UInt8) (sh last : Bool) (at_ told : Nat) (Q : List Msg) (tail : List UInt8) (held wrong : Int) (en : Bool) (E : List Ent), k ≤ S.length ∧ i = .int .i64 k ∧ Play w kb rb xb lm lb K L wr F sh last at_ told Q tail held wrong en E ∧ F.length ≤ totS (S.take k) ∧ told ≤ k ∧ E.length ≤ 2 * k) (fun i _ => S.length - (intOf i).toNat)
      case atStart => exact ⟨0, 50, L7, [], false, false, 0, 0, [], [], 0, 0, false, [], by omega, rfl, HP0.out, by simp, by omega, by simp⟩
      case round =>
        clear HP0
        obtain ⟨k, K, L, F, sh, last, at_, told, Q, tail, held, wrong, en, E, hk, rfl, hP, hFl, hTo, hEl⟩ := hrel
        by_cases hlt : k < S.length
        · have hHO := totS_mono S k
          have hHL := totS_len S
          have hHO2 := HO.out
          have hFb : F.length < 2147483648 := by omega
          have hkb2 : k < 2147483648 := by omega
          have HFl := Lib.hid hFl
          clear hFl hHO hHL hHO2
          obtain ⟨bb, off, ps, ks, hq, x1, x2, hk1, hk2, hrB, hbl, hxr⟩ := HS.out.cells hlt
          subst hq
          have hbb : L bb = 0 := hP.step.col bb (World.block_lt_of_cell? w _ x1)
          have HBB := Lib.hid hbb
          clear hbb
          have x1 := hP.step.cell x1 (by simp)
          have x2 := hP.step.cell x2 (by simp)
          have hrB := hrB.step hP.step (by simp)
          obtain ⟨x, hx⟩ : ∃ x, x = S[k].1 := ⟨_, rfl⟩
          rw [← hx] at x1 hxr
          have HXK := Lib.hid hx
          have HHP := Lib.hid hP
          clear hx hP
          by_cases hx1 : x = 1
          · subst hx1
            obtain ⟨BS, hBS⟩ : ∃ BS, BS = S[k].2 := ⟨_, rfl⟩
            have hts := totS_take hlt
            have hHO := totS_mono S (k + 1)
            have hHO2 := HO.out
            have hfl := HFl.out
            rw [← hBS] at x2 hrB hbl hk2 hts
            obtain ⟨X, hX⟩ : ∃ X, X = BS.length := ⟨_, rfl⟩
            rw [← hX] at x2 hrB hbl hk2 hts
            have hXb : X < 2147483648 := by omega
            have hFX : F.length + X ≤ totS (S.take (k + 1)) := by omega
            have hFb2 : F.length + X < 2147483648 := by omega
            have hsz := HHP.out.sizes
            have hhb := HHP.out.heldB
            have HFX : Hid (F.length + BS.length ≤ totS (S.take (k + 1)) ∧ F.length ≤ totS (S.take (k + 1))) := ⟨by rw [← hX]; exact hFX, by omega⟩
            have HX := Lib.hid hX
            clear hts hHO hHO2 hBS hX hFX hfl
            unfold maxLen at hk1
            go_wp2_with fail
            refine (lent_calls (c := 5) hrB (by omega)).mono ?_; rintro e w1 ⟨vb, rfl, g, rfl, s1, oB⟩
            have hP1 := HHP.out.move s1 (fun _ x => x.elim)
            have HP1 := Lib.hid hP1
            have x3 := s1.cell x2 (fun x => x)
            have hbb1 := (s1.col bb (World.block_lt_of_cell? wr _ x2)).trans HBB.out
            have HBB1 := Lib.hid hbb1
            clear hbb1
            have rB1 := hrB.step s1 (fun x => x)
            clear hP1 s1 x2 hrB
            generalize ext L wr.heap.size 5 = L1 at *
            go_wp2_with fail
            have hbf : Rd L1 5 w1 1 (.slice (some ⟨g, 0, none⟩) X (X + 3)) X (BS.map byt) := by
              have := oB.rd
              rw [List.map_append] at this
              exact Rd.front this (by rw [List.length_map]; exact HX.out.symm) (by omega) (by unfold maxLen; omega)
            cases sh with
            | true =>
              have c8 : w1.cell? ⟨rb, 8, none⟩ = some (.bool true) := by
                obtain ⟨vq, vb, g0, _⟩ := HP1.out.rdr
                rw [cell_of_heap g0]; rfl
              have c3 : w1.cell? ⟨xb, 3, none⟩ = some (.bool true) := by
                obtain ⟨vf, g0, _⟩ := HP1.out.ref
                rw [cell_of_heap g0]; rfl
              refine (ffeed_shut _ c8).mono ?_; rintro e w2 ⟨rfl, hw2⟩
              have hw2 := hw2.symm
              subst hw2
              go_wp2_with fail
              refine (rfeed_shut _ c3).mono ?_; rintro e w3 ⟨rfl, hw3⟩
              have hw3 := hw3.symm
              subst hw3
              have hP2 := HP1.out
              have rB2 := rB1
              clear hbf rB1 HP1 c8 c3

              go_wp2_with fail
              refine (kept_calls (by omega) oB.rd rB2).mono ?_; rintro e w9 ⟨rfl, q9, rfl⟩
              have hP9 := hP2.drewN q9
              have oB9 := oB.drewN q9
              clear hP2 oB rB2
              generalize w1.drewN q9 = w9 at *
              have HP9 := Lib.hid hP9
              clear hP9
              go_wp2_with fail
              go_loopw [19] (fun cc wr => ∃ (c : Nat) (Y : List UInt8), c ≤ X ∧ cc = .int .i64 c ∧ Play w kb rb xb lm lb K L1 wr F true last at_ told Q tail held wrong en E ∧ Own L1 5 wr 5 1 (.slice (some ⟨g, 0, none⟩) (X + 3) (X + 3)) (X + 3) (Y.map byt)) (fun cc _ => X - (intOf cc).toNat)
              case atStart => exact ⟨0, _, by omega, rfl, HP9.out, oB9⟩
              case round =>
                obtain ⟨c, Y, hc, rfl, hPr, oY⟩ := hrel
                clear oB9
                by_cases hlc : c < X
                · obtain ⟨u, hu, cu, fu, Y2, oY2, sY⟩ := lend_put oY hlc
                  have hP3 := hPr.move sY (by rintro _ rfl; omega)
                  have HP3 := Lib.hid hP3
                  clear hPr hP3 oY sY HP9
                  go_wp2_with fail
                  go_roundw
                  case rel => exact ⟨c + 1, Y2, by omega, by go_num, HP3.out, oY2⟩
                  case measure => simp [intOf]; omega
                · have HPr := Lib.hid hPr
                  clear hPr oY HP9
                  go_wp2_with fail
                  go_roundw
                  case rel => exact ⟨k + 1, K, L1, F, true, last, at_, told, Q, tail, held, wrong, en, E, by omega, by go_num, HPr.out, by have := HFX.out; simp; omega, by omega, by omega⟩
                  case measure => simp [intOf]; omega

            | false =>
              have hQb : told + Q.length ≤ 100000000000 := by omega
              have hb2 : BS.length = X := HX.out.symm
              have HQb := Lib.hid hb2
              clear hb2
              refine (feed_calls K (by have := HP1.out.k50; omega) HP1.out.rdr hlm hlb hbf (by unfold Rc; omega) (by omega) (by omega) (by omega)).mono ?_; rintro e w2 ⟨rfl, hF1, hF2⟩
              obtain ⟨L2, Q2, tail2, wrong2, en2, K2, st2, ref2, hfin⟩ := HP1.out.feed (bs := BS) (w1 := w2) ⟨by rw [HQb.out]; exact hF1, by rw [HQb.out]; exact hF2⟩
              have oB2 := oB.step st2 (by unfold Rc; omega)
              have rB3 := rB1.step st2 (by unfold Rc; omega)
              have x4 := st2.cell x3 (by
                show ¬ Rc 30 (L1 bb)
                rw [HBB1.out]; unfold Rc; omega)
              have hbb2 := (st2.col bb (World.block_lt_of_cell? w1 _ x3)).trans HBB1.out
              have HBB2 := Lib.hid hbb2
              have HFIN := Lib.hid hfin
              clear hF1 hF2 hbf rB1 HP1 st2 hfin oB x3 hbb2
              go_wp2_with fail
              refine (rfeed_calls ref2 rB3 (by omega)).mono ?_; rintro e w3 ⟨rfl, L3, s3, ref3⟩
              have hP2 := HFIN.out L3 w3 s3 ref3
              have oB := oB2.step s3 (by unfold Xc; omega)
              have rB2 := rB3.step s3 (by unfold Xc; omega)
              have x3 := s3.cell x4 (by
                show ¬ Xc 10 (L2 bb)
                rw [HBB2.out]; unfold Xc; omega)
              clear HFIN ref2 ref3 s3 oB2 rB3 x4

              go_wp2_with fail
              refine (kept_calls (by omega) oB.rd rB2).mono ?_; rintro e w9 ⟨rfl, q9, rfl⟩
              have hP9 := hP2.drewN q9
              have oB9 := oB.drewN q9
              clear hP2 oB rB2
              generalize w3.drewN q9 = w9 at *
              have HP9 := Lib.hid hP9
              clear hP9
              go_wp2_with fail
              go_loopw [19] (fun cc wr => ∃ (c : Nat) (Y : List UInt8), c ≤ X ∧ cc = .int .i64 c ∧ Play w kb rb xb lm lb K2 L3 wr (F ++ BS) false last at_ told Q2 tail2 (held + BS.length) wrong2 en2 E ∧ Own L3 5 wr 5 1 (.slice (some ⟨g, 0, none⟩) (X + 3) (X + 3)) (X + 3) (Y.map byt)) (fun cc _ => X - (intOf cc).toNat)
              case atStart => exact ⟨0, _, by omega, rfl, HP9.out, oB9⟩
              case round =>
                obtain ⟨c, Y, hc, rfl, hPr, oY⟩ := hrel
                clear oB9
                by_cases hlc : c < X
                · obtain ⟨u, hu, cu, fu, Y2, oY2, sY⟩ := lend_put oY hlc
                  have hP3 := hPr.move sY (by rintro _ rfl; omega)
                  have HP3 := Lib.hid hP3
                  clear hPr hP3 oY sY HP9
                  go_wp2_with fail
                  go_roundw
                  case rel => exact ⟨c + 1, Y2, by omega, by go_num, HP3.out, oY2⟩
                  case measure => simp [intOf]; omega
                · have HPr := Lib.hid hPr
                  clear hPr oY HP9
                  go_wp2_with fail
                  go_roundw
                  case rel => exact ⟨k + 1, K2, L3, (F ++ BS), false, last, at_, told, Q2, tail2, (held + BS.length), wrong2, en2, E, by omega, by go_num, HPr.out, by have := HFX.out; simp; omega, by omega, by omega⟩
                  case measure => simp [intOf]; omega

          · by_cases hx2 : x = 2
            · subst hx2
              go_wp2_with fail
              refine (shut_calls HHP.out.rdr).mono ?_; rintro e w1 ⟨rfl, s1, q1⟩
              have hX1 := HHP.out.ref.step s1 (by rintro _ rfl h; unfold Xc at h; omega)
              obtain ⟨E9, hE9⟩ : ∃ y : Int, y = if sh then 9 else 0 := ⟨_, rfl⟩
              rw [← hE9]
              have HE9 := Lib.hid hE9
              clear hE9
              go_wp2_with fail
              refine (rend_calls hX1).mono ?_; rintro e w2 ⟨rfl, L2, s2, q2⟩
              rw [← HE9.out]
              have hP2 := HHP.out.shut s1 q1 s2 q2
              have HP2 := Lib.hid hP2
              have z1 : (E9 == E9) = true := by simp
              clear hX1 s1 q1 s2 q2 hP2
              go_wp2_with fail
              go_roundw
              case rel => exact ⟨k + 1, K, L2, F, true, last, at_, told, Q, tail, held, wrong, en, E, by omega, by go_num, HP2.out, by have := HFl.out; have := totS_take hlt; omega, by omega, by omega⟩
              case measure => simp [intOf]; omega
            · by_cases hx3 : x = 3
              · subst hx3
                go_wp2_with fail
                refine (next_calls HHP.out hlm hlb (by omega) (by omega) (by omega)).mono ?_; rintro e w1 ⟨rfl, L1, K1, at1, told1, last1, Q1, held1, E1, hP1, ht1, hE1⟩
                have HP1 := Lib.hid hP1
                clear hP1
                go_wp2_with fail
                go_roundw
                case rel => exact ⟨k + 1, K1, L1, F, sh, last1, at1, told1, Q1, tail, held1, wrong, en, E1, by omega, by go_num, HP1.out, by have := HFl.out; have := totS_take hlt; omega, by omega, by omega⟩
                case measure => simp [intOf]; omega
              · by_cases hx4 : x = 4
                · subst hx4
                  have hsz := HHP.out.sizes
                  obtain ⟨vf, g0, g1, g2, _⟩ := HHP.out.ref
                  obtain ⟨pf, cf, hvf, _⟩ := ownsRow_shape g2.1
                  subst hvf
                  obtain ⟨V, hV⟩ : ∃ V, V = heldV held Q.isEmpty (standS wrong en sh) := ⟨_, rfl⟩
                  have hV2 := HHP.out.told_eq
                  rw [← hV] at hV2
                  have hld := HHP.out.le
                  have HV2 := Lib.hid hV2
                  have HG0 := Lib.hid g0
                  have HG2 := Lib.hid (FedAt.of_own g2)
                  have HRD := Lib.hid HHP.out.rdr
                  clear hV2 g0 g1 g2
                  go_wp2_with fail
                  refine (held_calls HRD.out (by omega)).mono ?_; rintro e w1 ⟨rfl, k1, rfl⟩
                  rw [← hV]
                  have HVV := Lib.hid hV
                  clear hV
                  go_wp2_with fail
                  refine (rheld_calls (L := L) (d := 11) hlm hlb (by exact HG0.out) (by exact ⟨HG2.out.rd, HG2.out.none, HG2.out.zero⟩) hld (by omega)).mono ?_; rintro e w2 ⟨rfl, b2⟩
                  rw [← HV2.out]
                  have z1 : (V == V) = true := by simp
                  obtain ⟨L3, hP3⟩ := (HHP.out.drewN k1).below b2
                  have HP3 := Lib.hid hP3
                  clear hP3 b2
                  go_wp2_with fail
                  go_roundw
                  case rel => exact ⟨k + 1, K, L3, F, sh, last, at_, told, Q, tail, held, wrong, en, E, by omega, by go_num, HP3.out, by have := HFl.out; have := totS_take hlt; omega, by omega, by omega⟩
                  case measure => simp [intOf]; omega
                · have z1 : (x == 1) = false := by simpa using hx1
                  have z2 : (x == 2) = false := by simpa using hx2
                  have z3 : (x == 3) = false := by simpa using hx3
                  have z4 : (x == 4) = false := by simpa using hx4
                  go_wp2_with fail
                  go_roundw
                  case rel => exact ⟨k + 1, K, L, F, sh, last, at_, told, Q, tail, held, wrong, en, E, by omega, by go_num, HHP.out, by have := HFl.out; have := totS_take hlt; omega, by omega, by omega⟩
                  case measure => simp [intOf]; omega
        · have hke : k = S.length := by omega
          have hHO := totS_mono S k
          have hHL := totS_len S
          have hHO2 := HO.out
          have hFb : F.length < 2147483648 := by omega
          have hkb2 : k < 2147483648 := by omega
          have HHP := Lib.hid hP
          clear hP hFl hHO hHL hHO2
          go_wp2_with fail
          refine (next_calls HHP.out hlm hlb (by omega) (by omega) (by omega)).mono ?_; rintro e wn ⟨rfl, L1, K1, at1, told1, last1, Q1, held1, E1, hP1, ht1, hE1⟩
          have HP1 := Lib.hid hP1
          clear hP1
          have hsz := HP1.out.sizes
          obtain ⟨vf, g0, g1, g2, _⟩ := HP1.out.ref
          obtain ⟨pf, cf, hvf, _⟩ := ownsRow_shape g2.1
          subst hvf
          obtain ⟨V, hV⟩ : ∃ V, V = heldV held1 Q1.isEmpty (standS wrong en sh) := ⟨_, rfl⟩
          have hV2 := HP1.out.told_eq
          rw [← hV] at hV2
          have hld := HP1.out.le
          have HV2 := Lib.hid hV2
          have HG0 := Lib.hid g0
          have HG2 := Lib.hid (FedAt.of_own g2)
          have HRD := Lib.hid HP1.out.rdr
          clear hV2 g0 g1 g2
          go_wp2_with fail
          refine (held_calls HRD.out (by omega)).mono ?_; rintro e wh ⟨rfl, kh, rfl⟩
          rw [← hV]
          have HVV := Lib.hid hV
          clear hV
          go_wp2_with fail
          refine (rheld_calls (L := L1) (d := 11) hlm hlb (by exact HG0.out) (by exact ⟨HG2.out.rd, HG2.out.none, HG2.out.zero⟩) hld (by omega)).mono ?_; rintro e wi ⟨rfl, b2⟩
          rw [← HV2.out]
          have z1 : (V == V) = true := by simp
          obtain ⟨L3, hP3⟩ := (HP1.out.drewN kh).below b2
          have HP3 := Lib.hid hP3
          clear hP3 b2
          go_wp2_with fail
          have hP4 := HP3.out
          have hnd := (List.nodup_append.1 hP4.cols).1
          refine (apart_calls hP4.book (by omega) (fun i h => ⟨(hP4.ents i h).1, ?_, ?_⟩) (fun i j hi hj e => ?_) (fun i h => ?_)).mono ?_
          · obtain ⟨vf, _, _, _, g3⟩ := hP4.ref
            rw [(hP4.ents i h).2]
            exact (g3 _ (List.mem_map.2 ⟨_, List.getElem_mem h, rfl⟩)).rd
          · have := hP4.ecol h
            unfold Bc; omega
          · have hp := List.pairwise_iff_getElem.1 hnd
            rcases Nat.lt_trichotomy i j with hij | hij | hij
            · exact absurd (by rw [List.getElem_map, List.getElem_map]; exact e) (hp i j (by simpa using hi) (by simpa using hj) hij)
            · exact hij
            · exact absurd (by rw [List.getElem_map, List.getElem_map]; exact e.symm) (hp j i (by simpa using hj) (by simpa using hi) hij)
          · exact hP4.small i h
          · rintro e wz ⟨rfl, LZ, sZ⟩
            have SZ := hP4.step.trans (sZ.mono (D := fun d => 1 ≤ d) (fun d hd => by
              rcases hd with hd | ⟨i, h, hd⟩
              · unfold Bc at hd; show 1 ≤ d; omega
              · have := hP4.ecol h; show 1 ≤ d; omega))
            clear hnd hP4
            go_wp2_with fail
            go_ret
            exact ⟨rfl, FIN.out _ _ SZ⟩
end Go.Proofs.Ytcebdodogbpglaa.Rdr
