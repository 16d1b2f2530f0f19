import Derived.Test.YtcebdodogbpglaaPutV
set_option linter.unusedVariables false
set_option maxRecDepth 100000
/-! THE WALK OF FRAMEPUTS. -/
namespace Go.Proofs.Ytcebdodogbpglaa.Put
open Go.ChangeShapes Go.WideShapes Go.ChangeAt Go.RowKit Mem Ink

set_option maxHeartbeats 1000000 in
theorem puts_walk {w : World} {p q : Option Addr} {n cap k cap2 : Nat} {ms bd : List UInt8} (hr : Rd (fun _ => 0) 0 w 1 (.slice p n cap) n (ms.map byt)) (hs : Rd (fun _ => 0) 0 w 1 (.slice q k cap2) k (bd.map byt)) (hn : n ≤ 140737488351232) (hk : k ≤ 140737488351232) :
    Calls Try.prog 6 #[.agg #[.slice p n cap, .slice q k cap2]] w fun e w' => e = .returned (.bool true) ∧ Below w.heap.size w w' := by
  have hnl : ms.length = n := by simpa using hr.1
  have hkl : bd.length = k := by simpa using hs.1
  subst hnl hkl
  obtain ⟨_, _, hv, hcn, hcm⟩ := hr.shape
  cases hv
  obtain ⟨_, _, hv, hcn2, hcm2⟩ := hs.shape
  cases hv
  unfold maxLen at hcm hcm2
  have st0 := Step.of_below (L := fun _ => 0) (below_alloc w (.cells #[.slice p ms.length cap, .slice q bd.length cap2] 25)) (fun _ => False) 9
  have r1 := hr.step st0 (by simp)
  have r2 := hs.step st0 (by simp)
  have B2 : Cells (ext (fun _ => 0) w.heap.size 9) _ w.heap.size 9 [.slice p ms.length cap, .slice q bd.length cap2] := (Cells.new (fun _ => 0) w 9 25 [.slice p ms.length cap, .slice q bd.length cap2]).2
  have S2 : Step (fun d => 1 ≤ d) (fun _ => 0) w (ext (fun _ => 0) w.heap.size 9) (w.alloc (.cells #[.slice p ms.length cap, .slice q bd.length cap2] 25)) := mono_ne st0
  clear hr hs st0
  go_enter Try.func6, Try.ntmps6
  go_wp2_with fail
  refine (rput_calls (c := 10) (by decide) (by decide) r1 r2).mono ?_; rintro e w3 ⟨vw, rfl, L3, s3, ow⟩
  have S3 := S2.trans (s3.mono (by rintro _ rfl; decide))
  have r3 := r1.step s3 (by decide)
  have r4 := r2.step s3 (by decide)
  have B4 := B2.step s3 (by decide)
  clear s3 S2 r1 r2 B2
  generalize w.heap.size = mb at *
  have k0 := B4.2.2 0 _ rfl
  obtain ⟨E0, hE0⟩ : ∃ x, x = putE ms.length bd.length := ⟨_, rfl⟩
  rw [← hE0]
  have HE0 := Lib.hid hE0
  clear hE0
  go_wp2_with fail
  refine (lent_calls (c := 1) r3 (by omega)).mono ?_; rintro e w4 ⟨vm, rfl, g1, rfl, s4, om⟩
  have S4 := S3.trans (mono_ne s4)
  have r5 := r3.step s4 (by simp)
  have r6 := r4.step s4 (by simp)
  have B6 := B4.step s4 (by simp)
  have ow := ow.step s4 (by simp)
  clear s4 S3 r3 r4 B4 k0
  generalize ext L3 w3.heap.size 1 = L4 at *
  have k1 := B6.2.2 1 _ rfl
  go_wp2_with fail
  refine (lent_calls (c := 2) r6 (by omega)).mono ?_; rintro e w5 ⟨vb, rfl, g2, rfl, s5, ob⟩
  have S5 := S4.trans (mono_ne s5)
  have r7 := r5.step s5 (by simp)
  have r8 := r6.step s5 (by simp)
  have B8 := B6.step s5 (by simp)
  have ow := ow.step s5 (by simp)
  have om := om.step s5 (by simp)
  clear s5 S4 r5 r6 B6 k1
  generalize ext L4 w4.heap.size 2 = L5 at *
  go_wp2_with fail
  have hB0 : BookAt (ext L5 w5.heap.size 20) 20 (w5.alloc (.cells #[.slice none 0 0, .slice none 0 0, .slice none 0 0, .slice none 0 0] 34)) w5.heap.size [] [] [] [] :=
    ⟨_, _, _, _, by unfold World.alloc; simp only [Array.getElem?_push_size], ext_new (Nat.le_refl _), Own.nil _ _ _ _ _, Own.nil _ _ _ _ _, Own.nil _ _ _ _ _, Own.nil _ _ _ _ _⟩
  have s6 := Step.of_below (L := L5) (below_alloc w5 (.cells #[.slice none 0 0, .slice none 0 0, .slice none 0 0, .slice none 0 0] 34)) (fun _ => False) 20
  have hT0 : Turned w mb w5.heap.size g1 g2 (.slice p ms.length cap) (.slice q bd.length cap2) vw ms bd 0 (ext L5 w5.heap.size 20) _ [] :=
    ⟨S5.trans (mono_ne s6), B8.step s6 (by simp), hB0, om.step s6 (by simp), ob.step s6 (by simp), ow.step s6 (by simp), r7.step s6 (by simp), r8.step s6 (by simp), rfl, fun i hi => absurd hi (by simp), fun i hi => absurd hi (by simp), fun i hi => absurd hi (by simp)⟩
  clear hB0 s6 S5 B8 om ob ow r7 r8
  generalize ext L5 w5.heap.size 20 = L6 at *
  generalize w5.alloc (.cells #[.slice none 0 0, .slice none 0 0, .slice none 0 0, .slice none 0 0] 34) = w6 at *
  generalize w5.heap.size = kb at *
  go_loopw [8] (fun i wr => ∃ (t : Nat) (L : Nat → Nat) (E : List Ent), t ≤ 2 ∧ i = .int .i64 t ∧ Turned w mb kb g1 g2 (.slice p ms.length cap) (.slice q bd.length cap2) vw ms bd t L wr E) (fun i _ => 2 - (intOf i).toNat)
  case atStart => exact ⟨0, L6, [], by omega, rfl, hT0⟩
  case round =>
    clear hT0
    obtain ⟨t, L, E, ht, rfl, hT⟩ := hrel
    by_cases hlt : t < 2
    · have r1 := hT.cells.2.2 0 _ rfl
      go_wp2_with fail
      have hT2 := hT.drewN 1 ht
      have k0 := hT2.cells.2.2 0 _ rfl
      have k1 := hT2.cells.2.2 1 _ rfl
      have hle1 : (ms.length : Int) ≤ (ms.length : Int) + 3 := by omega
      have hle2 : (bd.length : Int) ≤ (bd.length : Int) + 3 := by omega
      refine Late.region (fun w' => w'.cell? ⟨mb, 0, none⟩ = some (.slice p ms.length cap) ∧ w'.cell? ⟨mb, 1, none⟩ = some (.slice q bd.length cap2)) (fun _ => false) (by kernel_rfl) ?_
      refine Late.take (i := 0) (v := ?_) rfl (by kernel_rfl) (by kernel_rfl) (by kernel_rfl) (by kernel_rfl) (fun _ _ _ h => h) (Or.inl ⟨by rfl, ?_⟩) ⟨k0, k1⟩ ?_
      rotate_left
      · intro w' hS
        obtain ⟨s1, s2⟩ := hS
        go_simp
        rfl
      refine Late.take (i := 1) (v := ?_) rfl (by kernel_rfl) (by kernel_rfl) (by kernel_rfl) (by kernel_rfl) (fun _ _ _ h => h) (Or.inl ⟨by rfl, ?_⟩) ⟨k0, k1⟩ ?_
      rotate_left
      · intro w' hS
        obtain ⟨s1, s2⟩ := hS
        go_simp
        rfl
      refine Late.take (i := 2) (v := ?_) rfl (by kernel_rfl) (by kernel_rfl) (by kernel_rfl) (by kernel_rfl) (fun _ _ _ h => h) (Or.inl ⟨by rfl, ?_⟩) ⟨k0, k1⟩ ?_
      rotate_left
      · intro w' hS
        obtain ⟨s1, s2⟩ := hS
        go_simp
        rfl
      refine Late.take (i := 3) (v := ?_) rfl (by kernel_rfl) (by kernel_rfl) (by kernel_rfl) (by kernel_rfl) (fun _ _ _ h => h) (Or.inl ⟨by rfl, ?_⟩) ⟨k0, k1⟩ ?_
      rotate_left
      · intro w' hS
        obtain ⟨s1, s2⟩ := hS
        go_simp
        rfl
      refine Late.take (i := 4) (v := ?_) rfl (by kernel_rfl) (by kernel_rfl) (by kernel_rfl) (by kernel_rfl) (fun _ _ _ h => h) (Or.inl ⟨by rfl, ?_⟩) ⟨k0, k1⟩ ?_
      rotate_left
      · intro w' hS
        obtain ⟨s1, s2⟩ := hS
        go_simp
        rfl
      refine Late.take (i := 5) (v := ?_) rfl (by kernel_rfl) (by kernel_rfl) (by kernel_rfl) (by kernel_rfl) (fun _ _ _ h => h) (Or.inl ⟨by rfl, ?_⟩) ⟨k0, k1⟩ ?_
      rotate_left
      · intro w' hS
        obtain ⟨s1, s2⟩ := hS
        go_simp
        rfl
      refine Late.take (i := 6) (v := ?_) rfl (by kernel_rfl) (by kernel_rfl) (by kernel_rfl) (by kernel_rfl) (fun _ _ _ h => h) (Or.inl ⟨by rfl, ?_⟩) ⟨k0, k1⟩ ?_
      rotate_left
      · intro w' hS
        obtain ⟨s1, s2⟩ := hS
        go_simp
        rfl
      refine Late.take (i := 7) (v := ?_) rfl (by kernel_rfl) (by kernel_rfl) (by kernel_rfl) (by kernel_rfl) (fun _ _ _ h => h) (Or.inl ⟨by rfl, ?_⟩) ⟨k0, k1⟩ ?_
      rotate_left
      · intro w' hS
        obtain ⟨s1, s2⟩ := hS
        go_simp
        rfl
      refine Late.take (i := 8) (v := ?_) rfl (by kernel_rfl) (by kernel_rfl) (by kernel_rfl) (by kernel_rfl) (fun _ _ _ h => h) (Or.inl ⟨by rfl, ?_⟩) ⟨k0, k1⟩ ?_
      rotate_left
      · intro w' hS
        obtain ⟨s1, s2⟩ := hS
        go_simp
        rfl
      refine Late.take (i := 9) (v := ?_) rfl (by kernel_rfl) (by kernel_rfl) (by kernel_rfl) (by kernel_rfl) (fun _ _ _ h => h) (Or.inl ⟨by rfl, ?_⟩) ⟨k0, k1⟩ ?_
      rotate_left
      · intro w' hS
        obtain ⟨s1, s2⟩ := hS
        go_simp
        rfl
      refine Late.take (i := 10) (v := ?_) rfl (by kernel_rfl) (by kernel_rfl) (by kernel_rfl) (by kernel_rfl) (fun _ _ _ h => h) (Or.inl ⟨by rfl, ?_⟩) ⟨k0, k1⟩ ?_
      rotate_left
      · intro w' hS
        obtain ⟨s1, s2⟩ := hS
        go_simp
        rfl
      have f1 := Rd.front (ys := marks.map byt) (m := ms.length) (k := ms.length + 3) (by simpa using hT2.mine.rd) (by simp) (by omega) (by unfold maxLen; omega)
      have f2 := Rd.front (ys := marks.map byt) (m := bd.length) (k := bd.length + 3) (by simpa using hT2.body.rd) (by simp) (by omega) (by unfold maxLen; omega)
      refine Late.one (i := 11) (by kernel_rfl) rfl (fun K hK => ?_)
      go_simp
      refine (fput_calls (c := 40 + 2 * t) (by omega) (by omega) f1 f2).mono ?_; rintro e w7 ⟨v1, rfl, L7, s7, o1⟩
      rw [← HE0.out]
      have hT3 := hT2.move s7 (by rintro _ rfl; omega) ht
      have k2 := hT3.cells.2.2 0 _ rfl
      have k3 := hT3.cells.2.2 1 _ rfl
      refine hK _ _ (fun _ => ⟨k2, k3⟩) ?_
      clear hK K hT hT2 k0 k1 f1 f2 s7 r1
      refine Late.take (i := 12) (v := ?_) rfl (by kernel_rfl) (by kernel_rfl) (by kernel_rfl) (by kernel_rfl) (fun _ _ _ h => h) (Or.inl ⟨by rfl, ?_⟩) ⟨k2, k3⟩ ?_
      rotate_left
      · intro w' hS
        obtain ⟨s1, s2⟩ := hS
        go_simp
        rfl
      refine Late.take (i := 13) (v := ?_) rfl (by kernel_rfl) (by kernel_rfl) (by kernel_rfl) (by kernel_rfl) (fun _ _ _ h => h) (Or.inl ⟨by rfl, ?_⟩) ⟨k2, k3⟩ ?_
      rotate_left
      · intro w' hS
        obtain ⟨s1, s2⟩ := hS
        go_simp
        rfl
      refine Late.take (i := 14) (v := ?_) rfl (by kernel_rfl) (by kernel_rfl) (by kernel_rfl) (by kernel_rfl) (fun _ _ _ h => h) (Or.inl ⟨by rfl, ?_⟩) ⟨k2, k3⟩ ?_
      rotate_left
      · intro w' hS
        obtain ⟨s1, s2⟩ := hS
        go_simp
        rfl
      refine Late.take (i := 15) (v := ?_) rfl (by kernel_rfl) (by kernel_rfl) (by kernel_rfl) (by kernel_rfl) (fun _ _ _ h => h) (Or.inl ⟨by rfl, ?_⟩) ⟨k2, k3⟩ ?_
      rotate_left
      · intro w' hS
        obtain ⟨s1, s2⟩ := hS
        go_simp
        rfl
      refine Late.take (i := 16) (v := ?_) rfl (by kernel_rfl) (by kernel_rfl) (by kernel_rfl) (by kernel_rfl) (fun _ _ _ h => h) (Or.inl ⟨by rfl, ?_⟩) ⟨k2, k3⟩ ?_
      rotate_left
      · intro w' hS
        obtain ⟨s1, s2⟩ := hS
        go_simp
        rfl
      refine Late.done (by kernel_rfl) ?_ _
      clear k2 k3
      go_wp2_with fail
      have hS : ∀ bs : List UInt8, sameB bs bs = true := fun bs => by simp [sameB]
      have HS := Lib.hid hS
      clear hS
      refine (same_calls o1.rd hT3.want.rd).mono ?_; rintro e w8 ⟨rfl, q8, rfl⟩
      rw [HS.out]
      have hT4 := hT3.drewN q8 ht
      have o2 := o1.drewN q8
      clear hT3 o1
      generalize w7.drewN q8 = w8 at *
      have k0 := hT4.cells.2.2 0 _ rfl
      go_wp2_with fail
      refine (kept_calls (by omega) hT4.mine.rd hT4.src1).mono ?_; rintro e w9 ⟨rfl, q9, rfl⟩
      have hT5 := hT4.drewN q9 ht
      have o3 := o2.drewN q9
      clear hT4 o2 k0
      generalize w8.drewN q9 = w9 at *
      have k1 := hT5.cells.2.2 1 _ rfl
      go_wp2_with fail
      refine (kept_calls (by omega) hT5.body.rd hT5.src2).mono ?_; rintro e wa ⟨rfl, qa, rfl⟩
      have hT6 := hT5.drewN qa ht
      have o4 := o3.drewN qa
      clear hT5 o3 k1
      generalize w9.drewN qa = wa at *
      go_wp2_with fail
      refine (fclose_calls L7 (41 + 2 * t) wa).mono ?_; rintro e wb ⟨v2, rfl, L8, s8, c1⟩
      have hT7 := hT6.move s8 (by rintro _ rfl; omega) ht
      have o5 := o4.step s8 (by omega)
      clear hT6 o4 s8
      go_wp2_with fail
      refine (rclose_calls L8 60 wb).mono ?_; rintro e wc ⟨v3, rfl, L9, s9, r9⟩
      rw [rclose_msg, show 24 = (msgB 48 [] []).length from by rw [← rclose_msg, headB_length]] at r9
      have hT8 := hT7.move s9 (by rintro _ rfl; omega) ht
      have o6 := o5.step s9 (by omega)
      have c2 := c1.step s9 (by omega)
      clear hT7 o5 c1 s9
      go_wp2_with fail
      refine (same_calls c2.rd r9.rd).mono ?_; rintro e wd ⟨rfl, qd, rfl⟩
      rw [HS.out]
      have hT9 := hT8.drewN qd ht
      have o7 := o6.drewN qd
      have c3 := c2.drewN qd
      clear hT8 o6 c2 r9
      generalize wc.drewN qd = wd at *
      have hee : (E0 != E0) = false := by simp
      go_wp2_with fail
      obtain ⟨pw, cw, hvw, _⟩ := ownsRow_shape hT9.want.1
      obtain ⟨pg, cg, hvg, _⟩ := ownsRow_shape o7.1
      obtain ⟨pe, ce, hve, _⟩ := ownsRow_shape c3.1
      subst hvw hvg hve
      have hlE := hT9.len
      refine (add_calls hT9.book (by simp; omega) (by simp; omega) _ _ _ _ _ _).mono ?_; rintro e we ⟨rfl, La, sa, ba⟩
      have o8 := o7.step sa (by unfold Bc; omega)
      have c4 := c3.step sa (by unfold Bc; omega)
      clear o7 c3
      go_wp2_with fail
      refine (rclose_calls La (50 + t) we).mono ?_; rintro e wf ⟨v4, rfl, Lb, sb, r10⟩
      rw [rclose_msg, show 24 = (msgB 48 [] []).length from by rw [← rclose_msg, headB_length]] at r10
      have ba := ba.step sb (by rintro _ rfl h; unfold Bc at h; omega)
      have o9 := o8.step sb (by omega)
      have c5 := c4.step sb (by omega)
      have S9 := (sa.mono (D := fun d => Bc 20 d ∨ d = 50 + t) (fun _ h => .inl h)).trans (sb.mono (fun _ h => .inr h))
      clear o8 c4 sa sb
      obtain ⟨pr, cr, hvr, _⟩ := ownsRow_shape r10.1
      subst hvr
      go_wp2_with fail
      refine (add_calls ba (by simp; omega) (by simp; omega) _ _ _ _ _ _).mono ?_; rintro e wg ⟨rfl, Lc, sc, bc⟩
      have S10 := S9.trans (sc.mono (fun _ h => .inl h))
      have hw10 := hT9.want.step S10 (by unfold Bc; omega)
      have hTn := hT9.turn (e1 := ⟨.slice pg (putB ms bd).length cg, putB ms bd, 40 + 2 * t, .slice pw (putB ms bd).length cw, 10⟩) (e2 := ⟨.slice pe (msgB 48 [] []).length ce, msgB 48 [] [], 41 + 2 * t, .slice pr (msgB 48 [] []).length cr, 50 + t⟩) S10 (fun _ h => h) bc
        ⟨⟨o9.step sc (by unfold Bc; omega), hw10.rd⟩, ⟨c5.step sc (by unfold Bc; omega), (r10.step sc (by unfold Bc; omega)).rd⟩, ⟨rfl, rfl, rfl, rfl⟩, putB_small _ _, by rw [← rclose_msg, headB_length]; decide⟩ (by omega)
      clear hT9 S9 S10 sc bc ba hw10 o9 c5 r10
      go_wp2_with fail
      go_roundw
      case rel => exact ⟨t + 1, Lc, _, by omega, by go_num, hTn⟩
      case measure => simp [intOf]; omega
    · have ht2 : t = 2 := by omega
      subst ht2
      go_wp2_with fail
      have hcl : ∀ i (h : i < E.length), E[i].col = 40 + i := fun i h => (hT.cols i h).1
      refine (apart_calls hT.book (by rw [hT.len]; omega) (fun i h => ⟨(hT.ents i h).1, (hT.ents i h).2, by rw [hcl i h]; unfold Bc; omega⟩) (fun i j hi hj e => by rw [hcl i hi, hcl j hj] at e; omega) hT.small).mono ?_; rintro e wA ⟨rfl, LA, sA⟩
      have hD : ∀ d, d < 20 → ¬ (Bc 20 d ∨ ∃ i, ∃ h : i < E.length, E[i].col = d) := by
        rintro d hd (h | ⟨i, h, e⟩)
        · unfold Bc at h; omega
        · rw [hcl i h] at e; omega
      have S1 : Step (fun d => 1 ≤ d) (fun _ => 0) w LA wA := hT.step.trans (sA.mono fun d hd => by
        rcases hd with h | ⟨i, h, e⟩
        · unfold Bc at h; show 1 ≤ d; omega
        · rw [hcl i h] at e; show 1 ≤ d; omega)
      have B1 := hT.cells.step sA (hD _ (by omega))
      have m1 := hT.mine.step sA (hD _ (by omega))
      have b1 := hT.body.step sA (hD _ (by omega))
      clear hD sA hT hcl
      have k0 := B1.2.2 0 _ rfl
      have k1 := B1.2.2 1 _ rfl
      have hle1 : (ms.length : Int) ≤ (ms.length : Int) + 3 := by omega
      have hle2 : (bd.length : Int) ≤ (bd.length : Int) + 3 := by omega
      go_wp2_with fail
      have k0 : wA.drew.cell? ⟨mb, 0, none⟩ = some (.slice p ms.length cap) := k0
      have k1 : wA.drew.cell? ⟨mb, 1, none⟩ = some (.slice q bd.length cap2) := k1
      have hmb : mb < wA.drew.heap.size := B1.1
      refine Late.region (fun w' => w'.cell? ⟨mb, 0, none⟩ = some (.slice p ms.length cap) ∧ w'.cell? ⟨mb, 1, none⟩ = some (.slice q bd.length cap2)) (fun _ => false) (by kernel_rfl) ?_
      refine Late.take (i := 0) (v := ?_) rfl (by kernel_rfl) (by kernel_rfl) (by kernel_rfl) (by kernel_rfl) (fun _ _ _ h => h) (Or.inl ⟨by rfl, ?_⟩) ⟨k0, k1⟩ ?_
      rotate_left
      · intro w' hS
        obtain ⟨s1, s2⟩ := hS
        go_simp
        rfl
      refine Late.take (i := 1) (v := ?_) rfl (by kernel_rfl) (by kernel_rfl) (by kernel_rfl) (by kernel_rfl) (fun _ _ _ h => h) (Or.inl ⟨by rfl, ?_⟩) ⟨k0, k1⟩ ?_
      rotate_left
      · intro w' hS
        obtain ⟨s1, s2⟩ := hS
        go_simp
        rfl
      refine Late.take (i := 2) (v := ?_) rfl (by kernel_rfl) (by kernel_rfl) (by kernel_rfl) (by kernel_rfl) (fun _ _ _ h => h) (Or.inl ⟨by rfl, ?_⟩) ⟨k0, k1⟩ ?_
      rotate_left
      · intro w' hS
        obtain ⟨s1, s2⟩ := hS
        go_simp
        rfl
      refine Late.take (i := 3) (v := ?_) rfl (by kernel_rfl) (by kernel_rfl) (by kernel_rfl) (by kernel_rfl) (fun _ _ _ h => h) (Or.inl ⟨by rfl, ?_⟩) ⟨k0, k1⟩ ?_
      rotate_left
      · intro w' hS
        obtain ⟨s1, s2⟩ := hS
        go_simp
        rfl
      refine Late.take (i := 4) (v := ?_) rfl (by kernel_rfl) (by kernel_rfl) (by kernel_rfl) (by kernel_rfl) (fun _ _ _ h => h) (Or.inl ⟨by rfl, ?_⟩) ⟨k0, k1⟩ ?_
      rotate_left
      · intro w' hS
        obtain ⟨s1, s2⟩ := hS
        go_simp
        rfl
      refine Late.take (i := 5) (v := ?_) rfl (by kernel_rfl) (by kernel_rfl) (by kernel_rfl) (by kernel_rfl) (fun _ _ _ h => h) (Or.inl ⟨by rfl, ?_⟩) ⟨k0, k1⟩ ?_
      rotate_left
      · intro w' hS
        obtain ⟨s1, s2⟩ := hS
        go_simp
        rfl
      refine Late.take (i := 6) (v := ?_) rfl (by kernel_rfl) (by kernel_rfl) (by kernel_rfl) (by kernel_rfl) (fun _ _ _ h => h) (Or.inl ⟨by rfl, ?_⟩) ⟨k0, k1⟩ ?_
      rotate_left
      · intro w' hS
        obtain ⟨s1, s2⟩ := hS
        go_simp
        rfl
      refine Late.take (i := 7) (v := ?_) rfl (by kernel_rfl) (by kernel_rfl) (by kernel_rfl) (by kernel_rfl) (fun _ _ _ h => h) (Or.inl ⟨by rfl, ?_⟩) ⟨k0, k1⟩ ?_
      rotate_left
      · intro w' hS
        obtain ⟨s1, s2⟩ := hS
        go_simp
        rfl
      refine Late.take (i := 8) (v := ?_) rfl (by kernel_rfl) (by kernel_rfl) (by kernel_rfl) (by kernel_rfl) (fun _ _ _ h => h) (Or.inl ⟨by rfl, ?_⟩) ⟨k0, k1⟩ ?_
      rotate_left
      · intro w' hS
        obtain ⟨s1, s2⟩ := hS
        go_simp
        rfl
      refine Late.take (i := 9) (v := ?_) rfl (by kernel_rfl) (by kernel_rfl) (by kernel_rfl) (by kernel_rfl) (fun _ _ _ h => h) (Or.inl ⟨by rfl, ?_⟩) ⟨k0, k1⟩ ?_
      rotate_left
      · intro w' hS
        obtain ⟨s1, s2⟩ := hS
        go_simp
        rfl
      refine Late.take (i := 10) (v := ?_) rfl (by kernel_rfl) (by kernel_rfl) (by kernel_rfl) (by kernel_rfl) (fun _ _ _ h => h) (Or.inl ⟨by rfl, ?_⟩) ⟨k0, k1⟩ ?_
      rotate_left
      · intro w' hS
        obtain ⟨s1, s2⟩ := hS
        go_simp
        rfl
      refine Late.one (i := 11) (by kernel_rfl) rfl (fun K hK => ?_)
      go_simp
      refine hK _ _ (fun _ => ⟨(World.cell?_alloc_lt _ _ _ hmb).trans k0, (World.cell?_alloc_lt _ _ _ hmb).trans k1⟩) ?_
      clear hK K
      refine Late.one (i := 12) (by kernel_rfl) rfl (fun K hK => ?_)
      go_simp
      refine hK _ _ (fun _ => ⟨(World.cell?_alloc_lt _ _ _ hmb).trans k0, (World.cell?_alloc_lt _ _ _ hmb).trans k1⟩) ?_
      clear hK K
      refine Late.done (by kernel_rfl) ?_ _
      obtain ⟨sn, OB⟩ := Cells.new LA wA 9 25 [.slice (some ⟨g1, 0, none⟩) ms.length (ms.length + 3), .slice (some ⟨g2, 0, none⟩) bd.length (bd.length + 3)]
      have S2 := (S1.trans (mono_ne sn)).drewN 1
      have B2 := (B1.step sn (by simp)).drewN 1
      have m2 := (m1.step sn (by simp)).drewN 1
      have b2 := (b1.step sn (by simp)).drewN 1
      have OB := OB.drewN 1
      clear sn S1 B1 m1 b1 k0 k1 hmb
      change Exit.then _ _ _ _ ((wA.alloc (.cells [.slice (some ⟨g1, 0, none⟩) ms.length (ms.length + 3), .slice (some ⟨g2, 0, none⟩) bd.length (bd.length + 3)].toArray 25)).drewN 1)
      generalize (wA.alloc (.cells [.slice (some ⟨g1, 0, none⟩) ms.length (ms.length + 3), .slice (some ⟨g2, 0, none⟩) bd.length (bd.length + 3)].toArray 25)).drewN 1 = wB at *
      generalize ext LA wA.heap.size 9 = LB at *
      generalize wA.heap.size = ob at *
      have hU0 : Bumps w mb ob g1 g2 ms.length bd.length (.slice p ms.length cap) (.slice q bd.length cap2) ms bd LB wB := ⟨S2, B2, OB, m2, b2, rfl, rfl⟩
      have k0 := B2.2.2 0 _ rfl
      clear S2 B2 OB m2 b2
      obtain ⟨nm, hnm⟩ : ∃ x, x = ms.length := ⟨_, rfl⟩
      obtain ⟨nb, hnb⟩ : ∃ x, x = bd.length := ⟨_, rfl⟩
      rw [← hnm, ← hnb] at hU0
      rw [← hnm] at k0 hn hcn hle1 ⊢
      rw [← hnb] at hk hcn2 hle2 ⊢
      clear hnm hnb
      go_wp2_with fail
      go_loopw [18] (fun i wr => ∃ (j : Nat) (X : List UInt8), j ≤ nm ∧ i = .int .i64 j ∧ Bumps w mb ob g1 g2 nm nb (.slice p nm cap) (.slice q nb cap2) X bd LB wr) (fun i _ => nm - (intOf i).toNat)
      case atStart => exact ⟨0, ms, by omega, rfl, hU0⟩
      case round =>
        clear hU0 k0
        obtain ⟨j, X, hj, rfl, hU⟩ := hrel
        have k0 := hU.cells.2.2 0 _ rfl
        have k1 := hU.cells.2.2 1 _ rfl
        have q0 := hU.own.2.2 0 _ rfl
        have q1 := hU.own.2.2 1 _ rfl
        by_cases hlt : j < nm
        · obtain ⟨u, hu, c1, d1, X', hU2⟩ := hU.put1 hlt
          have c0 : (u : Int) ≤ 255 := by omega
          clear hU q0 q1 k1
          go_wp2_with fail
          go_roundw
          case rel => exact ⟨j + 1, X', by omega, by go_num, hU2⟩
          case measure => simp [intOf]; omega
        · go_wp2_with fail
          clear k1 q0 q1 k0
          obtain ⟨E1, hE1⟩ : ∃ x, x = putE X.length bd.length := ⟨_, rfl⟩
          have HE1 := Lib.hid hE1
          clear hE1
          refine (rput_calls (c := 60) (by decide) (by decide) (hU.read1 (by unfold maxLen; omega)) (hU.read2 (by unfold maxLen; omega))).mono ?_; rintro e wC ⟨v5, rfl, La, sa, o5⟩
          rw [← HE1.out]
          have hU2 := hU.move sa (by rintro _ rfl; decide)
          clear hU sa
          have q0 := hU2.own.2.2 0 _ rfl
          have q1 := hU2.own.2.2 1 _ rfl
          go_wp2_with fail
          refine (fput_calls (c := 61) (by decide) (by decide) (hU2.read1 (by unfold maxLen; omega)) (hU2.read2 (by unfold maxLen; omega))).mono ?_; rintro e wD ⟨v6, rfl, Lb, sb, o6⟩
          rw [← HE1.out]
          have hU3 := hU2.move sb (by rintro _ rfl; decide)
          have o7 := o5.step sb (by decide)
          clear hU2 sb o5 q0 q1
          go_wp2_with fail
          refine (same_calls o6.rd o7.rd).mono ?_; rintro e wE ⟨rfl, qE, rfl⟩
          rw [show sameB (putB X bd) (putB X bd) = true from by simp [sameB]]
          have hU4 := hU3.move ((Step.refl (fun _ => False) Lb wD).drewN qE) (fun _ x => x.elim)
          clear hU3 o6 o7
          generalize wD.drewN qE = wE at *
          have hee1 : (E1 != E1) = false := by simp
          have k1 := hU4.cells.2.2 1 _ rfl
          go_wp2_with fail
          go_loopw [22] (fun i wr => ∃ (j : Nat) (Y : List UInt8), j ≤ nb ∧ i = .int .i64 j ∧ Bumps w mb ob g1 g2 nm nb (.slice p nm cap) (.slice q nb cap2) X Y Lb wr) (fun i _ => nb - (intOf i).toNat)
          case atStart => exact ⟨0, bd, by omega, rfl, hU4⟩
          case round =>
            clear hU4 k1
            obtain ⟨j2, Y, hj2, rfl, hV⟩ := hrel
            have k1 := hV.cells.2.2 1 _ rfl
            have q0 := hV.own.2.2 0 _ rfl
            have q1 := hV.own.2.2 1 _ rfl
            by_cases hlt2 : j2 < nb
            · obtain ⟨u, hu, c1, d1, Y', hV2⟩ := hV.put2 hlt2
              have c0 : (u : Int) ≤ 255 := by omega
              clear hV q0 q1
              go_wp2_with fail
              go_roundw
              case rel => exact ⟨j2 + 1, Y', by omega, by go_num, hV2⟩
              case measure => simp [intOf]; omega
            · go_wp2_with fail
              clear k1 q0 q1
              obtain ⟨E2, hE2⟩ : ∃ x, x = putE X.length Y.length := ⟨_, rfl⟩
              have HE2 := Lib.hid hE2
              clear hE2
              refine (rput_calls (c := 62) (by decide) (by decide) (hV.read1 (by unfold maxLen; omega)) (hV.read2 (by unfold maxLen; omega))).mono ?_; rintro e wF ⟨v7, rfl, Lc, sc, o8⟩
              rw [← HE2.out]
              have hV2 := hV.move sc (by rintro _ rfl; decide)
              clear hV sc
              have q0 := hV2.own.2.2 0 _ rfl
              have q1 := hV2.own.2.2 1 _ rfl
              go_wp2_with fail
              refine (fput_calls (c := 63) (by decide) (by decide) (hV2.read1 (by unfold maxLen; omega)) (hV2.read2 (by unfold maxLen; omega))).mono ?_; rintro e wG ⟨v8, rfl, Ld, sd, o9⟩
              rw [← HE2.out]
              have hV3 := hV2.move sd (by rintro _ rfl; decide)
              have o10 := o8.step sd (by decide)
              clear hV2 sd o8 q0 q1
              go_wp2_with fail
              refine (same_calls o9.rd o10.rd).mono ?_; rintro e wH ⟨rfl, qH, rfl⟩
              rw [show sameB (putB X Y) (putB X Y) = true from by simp [sameB]]
              have hee2 : (E2 == E2) = true := by simp
              have S9 := hV3.step.drewN qH
              clear hV3 o9 o10
              go_wp2_with fail
              go_ret
              exact ⟨rfl, S9.below (Nat.le_refl _) (fun k hk => by decide)⟩

end Go.Proofs.Ytcebdodogbpglaa.Put
