import Derived.Test.YtcebdodogbpglaaRfA
import Derived.Test.YtcebdodogbpglaaApartA
set_option linter.unusedVariables false
set_option maxRecDepth 100000
/-! THE REFERENCE: what a beginning is judged. -/
namespace Go.Proofs.Ytcebdodogbpglaa.Rdr
open Go.ChangeShapes Go.WideShapes Go.ChangeAt Go.RowKit Mem Put

theorem LookSt.draws {c : Nat} {w w' : World} {rb lm lb b off cap : Nat} {bs : List UInt8} {L' : Nat → Nat} (h : LookSt c w rb lm lb b off cap bs L' w') (k : Nat) : LookSt c w rb lm lb b off cap bs L' (w'.drewN k) :=
  ⟨h.below.trans ⟨rfl, rfl, rfl, Nat.le_refl _, fun _ _ => rfl⟩, h.lim0, h.lim1, h.read⟩
theorem n4_seg {bs : List UInt8} {a m : Nat} (h : 4 ≤ m) : n4 (seg bs a m) 0 = n4 bs a := by
  unfold n4 seg; rw [List.drop_zero, List.take_take, Nat.min_eq_left h]
theorem LookSt.rnum {c : Nat} {w w' : World} {rb lm lb b off cap : Nat} {bs : List UInt8} {L' : Nat → Nat} (h : LookSt c w rb lm lb b off cap bs L' w') {a o m k : Nat} (ha : a + m ≤ bs.length) (hm4 : 4 ≤ m) (ho : o = off + a) (hk : m ≤ k) (hk2 : k ≤ cap) :
    Calls Try.prog 54 #[.slice (some ⟨b, o, none⟩) m k] w' fun e w'' => e = .returned (.int .i64 (n4 bs a)) ∧ ∃ j, w'' = w'.drewN j := by
  obtain ⟨_, _, hv, hn, hm⟩ := h.read.shape
  cases hv
  subst ho
  refine (rnumber_calls hm4 (Rd.sub h.read ha k (by omega) (by omega))).mono fun _ _ ⟨g1, g2⟩ => ⟨by rw [g1, n4_seg hm4], g2⟩
theorem LookSt.rsum {c : Nat} {w w' : World} {rb lm lb b off cap : Nat} {bs : List UInt8} {L' : Nat → Nat} (h : LookSt c w rb lm lb b off cap bs L' w') {a m o k : Nat} (ha : a + m ≤ bs.length) (ho : o = off + a) (hk : m ≤ k) (hk2 : k ≤ cap) (x : Nat) (hx : x < 4294967296) :
    Calls Try.prog 35 #[.int .u32 x, .slice (some ⟨b, o, none⟩) m k] w' fun e w'' => e = .returned (.int .u32 (sumV x (seg bs a m))) ∧ w' = w'' := by
  obtain ⟨_, _, hv, hn, hm⟩ := h.read.shape
  cases hv
  subst ho
  exact rsum_calls (Rd.sub h.read ha k (by omega) (by omega)) x hx
theorem LookSt.rsum2 {c : Nat} {w w' : World} {rb lm lb b off cap : Nat} {bs : List UInt8} {L' : Nat → Nat} (h : LookSt c w rb lm lb b off cap bs L' w') {a m : Nat} (ha : a + m ≤ bs.length) (x : Nat) (hx : x < 4294967296) :
    Calls Try.prog 35 #[.int .u32 x, .slice (if cap = a then some ⟨b, off, none⟩ else some ⟨b, off + a, none⟩) m (cap - a)] w' fun e w'' => e = .returned (.int .u32 (sumV x (seg bs a m))) ∧ w' = w'' := by
  obtain ⟨_, _, hv, hn, hm⟩ := h.read.shape
  cases hv
  by_cases e : cap = a
  · rw [if_pos e]
    have hm0 : m = 0 := by omega
    subst hm0
    have hs : seg bs a 0 = seg bs 0 0 := by simp [seg]
    rw [hs]
    exact h.rsum (a := 0) (m := 0) (by omega) rfl (by omega) (by omega) x hx
  · rw [if_neg e]
    exact h.rsum ha rfl (by omega) (by omega) x hx


set_option maxHeartbeats 2000000 in
theorem judge_calls {L : Nat → Nat} {c : Nat} {w : World} {lm lb : Nat} (hlm : lm ≤ 65536) (hlb : lb ≤ 4194304)
    {q : Option Addr} {n cap : Nat} {bs : List UInt8} (hr : Rd L c w 1 (.slice q n cap) n (bs.map byt)) :
    Calls Try.prog 53 #[.slice q n cap, .agg #[.int .i64 lm, .int .i64 lb]] w fun e w' => e = .returned (.tuple #[.int .i64 (judgeN bs lm lb), .int .i64 (lookE bs lm lb)]) ∧ Below w.heap.size w w' := by
  have hbl : bs.length = n := by simpa using hr.1
  subst hbl
  obtain ⟨_, _, hv, hn, hm⟩ := hr.shape
  cases hv
  unfold maxLen at hm
  obtain ⟨w1, hw1⟩ : ∃ w1, w1 = w.alloc (.cells #[.int .i64 lm, .int .i64 lb] 40) := ⟨_, rfl⟩
  have hB0 : Below w.heap.size w w1 := by rw [hw1]; exact below_alloc _ _
  have hr0 := hr.step (Step.of_below hB0 (fun _ => False) 0) (by simp)
  have c0 : w1.cell? ⟨w.heap.size, 0, none⟩ = some (.int .i64 lm) := by rw [hw1]; simp
  have c1 : w1.cell? ⟨w.heap.size, 1, none⟩ = some (.int .i64 lb) := by rw [hw1]; simp
  obtain ⟨rb, hrb⟩ : ∃ rb, rb = w.heap.size := ⟨_, rfl⟩
  rw [← hrb] at c0 c1
  have HRB := Lib.hid hrb
  have HW1 := Lib.hid hw1
  obtain ⟨ME, hME⟩ : ∃ E : Int, E = if markB bs = false then 70 else 0 := ⟨_, rfl⟩
  go_enter Try.func53, Try.ntmps53
  go_wp2_with fail
  rw [← hw1, ← hrb]
  clear hw1 hrb
  refine (marked_calls hr0).mono ?_; rintro e w2 ⟨rfl, k2, rfl⟩
  rw [← hME]
  have HME := Lib.hid hME
  clear hME
  by_cases hM : markB bs = false
  · have hE : lookE bs lm lb = 70 := by rw [lookE, if_pos hM]
    have hM2 : ME = 70 := by rw [HME.out, if_pos hM]
    have hN : judgeN bs lm lb = 0 := by rw [judgeN, if_neg (by rw [hE]; simp)]
    have HE := Lib.hid hE
    have HN := Lib.hid hN
    subst hM2
    clear hM hE hN
    go_wp2_with fail
    go_ret2
    exact ⟨by rw [HE.out, HN.out]; rfl, hB0.trans ⟨rfl, rfl, rfl, Nat.le_refl _, fun _ _ => rfl⟩⟩
  · have hM2 : ME = 0 := by rw [HME.out, if_neg hM]
    have hM3 : markB bs = true := by simpa using hM
    subst hM2
    have HM := Lib.hid hM3
    clear hM hM3
    by_cases hl16 : bs.length < 16
    · have hE : lookE bs lm lb = 0 := by rw [lookE, if_neg (by rw [HM.out]; simp), if_pos hl16]
      have hN : judgeN bs lm lb = 0 := by rw [judgeN, if_neg (by omega)]
      have HE := Lib.hid hE
      have HN := Lib.hid hN
      clear hE hN
      go_wp2_with fail
      go_ret2
      exact ⟨by rw [HE.out, HN.out]; rfl, hB0.trans ⟨rfl, rfl, rfl, Nat.le_refl _, fun _ _ => rfl⟩⟩
    · have hcap : 16 ≤ cap := by omega
      have k4 : (4 : Int) ≤ (cap : Int) := by omega
      have k8 : (8 : Int) ≤ (cap : Int) := by omega
      have k12 : (12 : Int) ≤ (cap : Int) := by omega
      have k16 : (16 : Int) ≤ (cap : Int) := by omega
      have z4 : ¬ cap = 4 := by omega
      have z8 : ¬ cap = 8 := by omega
      have z12 : ¬ cap = 12 := by omega
      obtain ⟨b, off, hq, _, _⟩ := hr0.at (show 0 < bs.length by omega)
      subst hq
      have hS0 := (LookSt.mk hB0 c0 c1 hr0).draws k2
      clear hr0 c0 c1
      go_wp2_with fail
      refine (hS0.rnum (a := 4) (by omega) (by omega) rfl (by omega) (by omega)).mono ?_; rintro e w2 ⟨rfl, k3, rfl⟩
      have hS1 := hS0.draws k3
      clear hS0
      obtain ⟨M, hM⟩ : ∃ x : Nat, x = n4 bs 4 := ⟨_, rfl⟩
      have hMl : M < 4294967296 := by rw [hM]; exact n4_lt _ _
      rw [← hM]
      have HMM := Lib.hid hM
      clear hM
      generalize (w1.drewN k2).drewN k3 = w2 at *
      go_wp2_with fail
      refine (hS1.rnum (a := 8) (by omega) (by omega) rfl (by omega) (by omega)).mono ?_; rintro e w3 ⟨rfl, k4', rfl⟩
      have hS2 := hS1.draws k4'
      clear hS1
      obtain ⟨N, hN⟩ : ∃ x : Nat, x = n4 bs 8 := ⟨_, rfl⟩
      have hNl : N < 4294967296 := by rw [hN]; exact n4_lt _ _
      rw [← hN]
      have HNN := Lib.hid hN
      clear hN
      generalize w2.drewN k4' = w3 at *
      go_wp2_with fail
      have hA : ∀ n, Calls Try.prog 54 #[.slice (some ⟨b, off + 12, none⟩) (bs.length - 12) (cap - 12)] (w3.drewN n) fun e w'' => e = .returned (.int .i64 (n4 bs 12)) ∧ ∃ m, w'' = w3.drewN m := fun n => quiet_more ((hS2.draws n).rnum (a := 12) (by omega) (by omega) rfl (by omega) (by omega))
      have hB : ∀ n, Calls Try.prog 35 #[.int .u32 (2166136261 : Nat), .slice (some ⟨b, off, none⟩) 12 cap] (w3.drewN n) fun e w'' => e = .returned (.int .u32 (sumV 2166136261 (seg bs 0 12))) ∧ ∃ m, w'' = w3.drewN m := fun n => ((hS2.draws n).rsum (a := 0) (m := 12) (by omega) rfl (by omega) (by omega) 2166136261 (by decide)).mono fun _ _ ⟨g1, g2⟩ => ⟨g1, n, g2.symm⟩
      rw [show (((2166136261 : Nat) : Int)) = 2166136261 from rfl] at hB
      obtain ⟨X, hX⟩ : ∃ x : Nat, x = n4 bs 12 := ⟨_, rfl⟩
      have hXl : X < 4294967296 := by rw [hX]; exact n4_lt _ _
      rw [← hX] at hA
      have HX := Lib.hid hX
      clear hX
      obtain ⟨Y, hY⟩ : ∃ x : Nat, x = sumV 2166136261 (seg bs 0 12) := ⟨_, rfl⟩
      have hYl : Y < 4294967296 := by rw [hY]; exact sumV_lt (by decide) _
      rw [← hY] at hB
      have HY := Lib.hid hY
      clear hY
      have hXl2 : (X : Int) % 4294967296 = X := by omega
      have CA := Lib.hid hA
      have CB := Lib.hid hB
      clear hA hB
      have HS2 := Lib.hid hS2
      clear hS2
      go_quiet (first | exact CA.out _ | exact CB.out _)
      have hS3 := HS2.out.draws nq
      generalize w3.drewN nq = w5 at *
      clear HS2 CA CB
      have HBel := Lib.hid hS3.below
      have hS4 := hS3
      clear hS3
      by_cases hXY : X = Y
      · have z1 : ((X : Int) != (Y : Int)) = false := by simp; omega
        have hXY2 := Lib.hid hXY
        have d0 := hS4.lim0
        have d1 := hS4.lim1
        clear hXY
        by_cases hl1 : lm < M
        · have z2 : decide ((lm : Int) < M) = true := by simp; omega
          have hE : lookE bs lm lb = 71 := by
            rw [lookE, if_neg (by rw [HM.out]; simp), if_neg hl16, if_neg (by rw [← HX.out]; intro h; exact h (hXY2.out.trans HY.out)), if_pos (by rw [← HMM.out]; exact .inl hl1)]
          have hN : judgeN bs lm lb = 0 := by rw [judgeN, if_neg (by rw [hE]; simp)]
          have HE1 := Lib.hid hE
          have HN1 := Lib.hid hN
          clear hE hN hS4
          go_wp2_with fail
          all_goals go_ret2
          all_goals exact ⟨by rw [HE1.out, HN1.out]; rfl, HBel.out⟩
        · by_cases hl2 : lb < N
          · have z2 : decide ((lb : Int) < N) = true := by simp; omega
            have z3 : decide ((lm : Int) < M) = false := by simp; omega
            have hE : lookE bs lm lb = 71 := by
              rw [lookE, if_neg (by rw [HM.out]; simp), if_neg hl16, if_neg (by rw [← HX.out]; intro h; exact h (hXY2.out.trans HY.out)), if_pos (by rw [← HNN.out]; exact .inr hl2)]
            have hN : judgeN bs lm lb = 0 := by rw [judgeN, if_neg (by rw [hE]; simp)]
            have HE1 := Lib.hid hE
            have HN1 := Lib.hid hN
            clear hE hN hS4
            go_wp2_with fail
            all_goals go_ret2
            all_goals exact ⟨by rw [HE1.out, HN1.out]; rfl, HBel.out⟩
          · have z2 : decide ((lb : Int) < N) = false := by simp; omega
            have z3 : decide ((lm : Int) < M) = false := by simp; omega
            obtain ⟨_, _, hq, _, e3⟩ := hS4.read.at (show 3 < bs.length by omega)
            cases hq
            have hb3 : bs[3]? = some bs[3] := List.getElem?_eq_getElem (by omega)
            obtain ⟨y3, hy3⟩ : ∃ y : UInt8, y = bs[3] := ⟨_, rfl⟩
            rw [← hy3] at e3 hb3
            have Hb3 := Lib.hid hb3
            clear hy3 hb3
            obtain ⟨x3, hx3⟩ : ∃ x : Nat, x = y3.toNat := ⟨_, rfl⟩
            rw [← hx3] at e3
            have h48 : y3 = 48 ↔ x3 = 48 := by rw [hx3, ← UInt8.toNat_inj]; rfl
            have H48 := Lib.hid h48
            clear h48 hx3
            by_cases hF : x3 = 48 ∧ (M ≠ 0 ∨ N ≠ 0)
            · obtain ⟨hF1, hF2⟩ := hF
              subst hF1
              have HF2 := Lib.hid hF2
              clear hF2
              by_cases hM0 : M = 0
              · have z4 : ((M : Int) != 0) = false := by simp; omega
                have hN0 : N ≠ 0 := HF2.out.elim (fun h => absurd hM0 h) id
                have z5 : ((N : Int) != 0) = true := by simp; omega
                have hE : lookE bs lm lb = 8 := by
                  rw [lookE, if_neg (by rw [HM.out]; simp), if_neg hl16, if_neg (by rw [← HX.out]; intro h; exact h (hXY2.out.trans HY.out)), if_neg (by rw [← HMM.out, ← HNN.out]; omega), if_pos ⟨by rw [Hb3.out, H48.out.2 rfl], by rw [← HMM.out, ← HNN.out]; exact HF2.out⟩]
                have hN : judgeN bs lm lb = 0 := by rw [judgeN, if_neg (by rw [hE]; simp)]
                have HE1 := Lib.hid hE
                have HN1 := Lib.hid hN
                clear hE hN hS4
                go_wp2_with fail
                all_goals go_ret2
                all_goals exact ⟨by rw [HE1.out, HN1.out]; rfl, HBel.out⟩
              · have z4 : ((M : Int) != 0) = true := by simp; omega
                have hE : lookE bs lm lb = 8 := by
                  rw [lookE, if_neg (by rw [HM.out]; simp), if_neg hl16, if_neg (by rw [← HX.out]; intro h; exact h (hXY2.out.trans HY.out)), if_neg (by rw [← HMM.out, ← HNN.out]; omega), if_pos ⟨by rw [Hb3.out, H48.out.2 rfl], by rw [← HMM.out, ← HNN.out]; exact HF2.out⟩]
                have hN : judgeN bs lm lb = 0 := by rw [judgeN, if_neg (by rw [hE]; simp)]
                have HE1 := Lib.hid hE
                have HN1 := Lib.hid hN
                clear hE hN hS4
                go_wp2_with fail
                all_goals go_ret2
                all_goals exact ⟨by rw [HE1.out, HN1.out]; rfl, HBel.out⟩
            · have hF2 : ¬ (bs[3]? = some 48 ∧ (n4 bs 4 ≠ 0 ∨ n4 bs 8 ≠ 0)) := by
                rintro ⟨h1, h2⟩
                rw [← HMM.out, ← HNN.out] at h2
                rw [Hb3.out] at h1
                exact hF ⟨H48.out.1 (Option.some.inj h1), h2⟩
              have HF2 := Lib.hid hF2
              obtain ⟨FB, hFB⟩ : ∃ b : Bool, b = (decide (x3 = 48) && (decide (M ≠ 0) || decide (N ≠ 0))) := ⟨_, rfl⟩
              clear hF2
              by_cases h3 : x3 = 48
              · have hM0 : M = 0 := by omega
                have hN0 : N = 0 := by omega
                have z4 : ((M : Int) != 0) = false := by simp; omega
                have z5 : ((N : Int) != 0) = false := by simp; omega
                subst h3
                clear hF hM0 hN0 hFB
                go_wp2_with fail
                refine (up_calls (M : Int) (by omega) (by omega) _).mono ?_; rintro e w6 ⟨rfl, rfl⟩
                rw [pad_int]
                obtain ⟨U, hU⟩ : ∃ U, U = padU M := ⟨_, rfl⟩
                have hUb : M ≤ U ∧ U < M + 8 := by rw [hU]; exact padU_ge _
                rw [← hU]
                have HU := Lib.hid hU
                clear hU
                obtain ⟨F, hF2⟩ : ∃ F, F = 24 + U := ⟨_, rfl⟩
                have HF := Lib.hid hF2
                have hFb : 24 ≤ F ∧ F ≤ 65568 := by omega
                clear hF2
                go_wp2_with fail
                rw [show (24 : Int) + (U : Int) = (F : Int) from by have := HF.out; omega]
                refine (up_calls (N : Int) (by omega) (by omega) _).mono ?_; rintro e w6 ⟨rfl, rfl⟩
                rw [pad_int]
                obtain ⟨V, hV⟩ : ∃ V, V = padU N := ⟨_, rfl⟩
                have hVb : N ≤ V ∧ V < N + 8 := by rw [hV]; exact padU_ge _
                rw [← hV]
                have HV := Lib.hid hV
                clear hV
                go_wp2_with fail
                refine (zeros_calls hS4.read 20 24 (by omega) (by omega)).mono ?_; rintro e w6 ⟨rfl, rfl⟩
                obtain ⟨Z1, hZ1⟩ : ∃ z, z = zerosB bs 20 24 := ⟨_, rfl⟩
                rw [← hZ1]
                have HZ1 := Lib.hid hZ1
                clear hZ1
                go_wp2_with fail
                refine (zeros_calls hS4.read (24 + M) F (by omega) (by omega)).mono ?_; rintro e w6 ⟨rfl, rfl⟩
                obtain ⟨Z2, hZ2⟩ : ∃ z, z = zerosB bs (24 + M) F := ⟨_, rfl⟩
                rw [← hZ2]
                have HZ2 := Lib.hid hZ2
                clear hZ2
                go_wp2_with fail
                refine (zeros_calls hS4.read (F + N) (F + V) (by omega) (by omega)).mono ?_; rintro e w6 ⟨rfl, rfl⟩
                obtain ⟨Z3, hZ3⟩ : ∃ z, z = zerosB bs (F + N) (F + V) := ⟨_, rfl⟩
                rw [← hZ3]
                have HZ3 := Lib.hid hZ3
                clear hZ3
                cases Z1 with
                | false =>
                  have hE : lookE bs lm lb = 8 := by
                    rw [lookE, if_neg (by rw [HM.out]; simp), if_neg hl16, if_neg (by rw [← HX.out]; intro h; exact h (hXY2.out.trans HY.out)), if_neg (by rw [← HMM.out, ← HNN.out]; omega), if_neg HF2.out, if_pos (by unfold sizeV fromV; rw [← HMM.out, ← HNN.out, ← HU.out, ← HV.out, ← HF.out]; exact .inl HZ1.out.symm)]
                  have hN : judgeN bs lm lb = 0 := by rw [judgeN, if_neg (by rw [hE]; simp)]
                  have HE1 := Lib.hid hE
                  have HN1 := Lib.hid hN
                  clear hE hN hS4 d0 d1 e3
                  go_wp2_with fail
                  all_goals go_ret2
                  all_goals exact ⟨by rw [HE1.out, HN1.out]; rfl, HBel.out⟩
                | true =>
                  cases Z2 with
                  | false =>
                    have hE : lookE bs lm lb = 8 := by
                      rw [lookE, if_neg (by rw [HM.out]; simp), if_neg hl16, if_neg (by rw [← HX.out]; intro h; exact h (hXY2.out.trans HY.out)), if_neg (by rw [← HMM.out, ← HNN.out]; omega), if_neg HF2.out, if_pos (by unfold sizeV fromV; rw [← HMM.out, ← HNN.out, ← HU.out, ← HV.out, ← HF.out]; exact .inr (.inl HZ2.out.symm))]
                    have hN : judgeN bs lm lb = 0 := by rw [judgeN, if_neg (by rw [hE]; simp)]
                    have HE1 := Lib.hid hE
                    have HN1 := Lib.hid hN
                    clear hE hN hS4 d0 d1 e3
                    go_wp2_with fail
                    all_goals go_ret2
                    all_goals exact ⟨by rw [HE1.out, HN1.out]; rfl, HBel.out⟩
                  | true =>
                    cases Z3 with
                    | false =>
                      have hE : lookE bs lm lb = 8 := by
                        rw [lookE, if_neg (by rw [HM.out]; simp), if_neg hl16, if_neg (by rw [← HX.out]; intro h; exact h (hXY2.out.trans HY.out)), if_neg (by rw [← HMM.out, ← HNN.out]; omega), if_neg HF2.out, if_pos (by unfold sizeV fromV; rw [← HMM.out, ← HNN.out, ← HU.out, ← HV.out, ← HF.out]; exact .inr (.inr HZ3.out.symm))]
                      have hN : judgeN bs lm lb = 0 := by rw [judgeN, if_neg (by rw [hE]; simp)]
                      have HE1 := Lib.hid hE
                      have HN1 := Lib.hid hN
                      clear hE hN hS4 d0 d1 e3
                      go_wp2_with fail
                      all_goals go_ret2
                      all_goals exact ⟨by rw [HE1.out, HN1.out]; rfl, HBel.out⟩
                    | true =>
                      have hZ : ¬ (zerosB bs 20 24 = false ∨ zerosB bs (24 + n4 bs 4) (fromV bs) = false ∨ zerosB bs (fromV bs + n4 bs 8) (sizeV bs) = false) := by
                        unfold sizeV fromV
                        rw [← HMM.out, ← HNN.out, ← HU.out, ← HV.out, ← HF.out, ← HZ1.out, ← HZ2.out, ← HZ3.out]
                        simp
                      have HZ := Lib.hid hZ
                      clear hZ e3
                      have hSz : sizeV bs = F + V := by unfold sizeV fromV; rw [← HMM.out, ← HNN.out, ← HU.out, ← HV.out, ← HF.out]
                      have HSz := Lib.hid hSz
                      clear hSz
                      by_cases hge : F + V ≤ bs.length
                      · have hgi : (F : Int) + V ≤ bs.length := by omega
                        obtain ⟨e1, he1⟩ : ∃ e, e = 24 + M := ⟨_, rfl⟩
                        obtain ⟨e2, he2⟩ : ∃ e, e = F + N := ⟨_, rfl⟩
                        have x1 : e1 ≤ cap := by have := HF.out; omega
                        have x2 : (24 : Int) ≤ (e1 : Int) := by omega
                        have x3 : e2 ≤ cap := by omega
                        have x4 : F ≤ e2 := by omega
                        have x5 : e1 - 24 = M := by omega
                        have x6 : e2 - F = N := by omega
                        have x7 : 24 ≤ e1 := by omega
                        have x8 : (24 : Int) + (M : Int) = (e1 : Int) := by omega
                        have x9 : (F : Int) + (N : Int) = (e2 : Int) := by omega
                        have kz : ¬ cap = 16 := by omega
                        have k20 : (20 : Int) ≤ cap := by omega
                        have HE1e := Lib.hid he1
                        have HE2e := Lib.hid he2
                        clear he1 he2 d0 d1
                        go_wp2_with fail
                        have hA : ∀ n, Calls Try.prog 54 #[.slice (some ⟨b, off + 16, none⟩) (bs.length - 16) (cap - 16)] (w5.drewN n) fun e w'' => e = .returned (.int .i64 (n4 bs 16)) ∧ ∃ m, w'' = w5.drewN m := fun n => quiet_more ((hS4.draws n).rnum (a := 16) (by omega) (by omega) rfl (by omega) (by omega))
                        have hB : ∀ n, Calls Try.prog 35 #[.int .u32 (2166136261 : Nat), .slice (if cap = 24 then some ⟨b, off, none⟩ else some ⟨b, off + 24, none⟩) M (cap - 24)] (w5.drewN n) fun e w'' => e = .returned (.int .u32 (sumV 2166136261 (seg bs 24 M))) ∧ ∃ m, w'' = w5.drewN m := fun n => ((hS4.draws n).rsum2 (a := 24) (m := M) (by have := HF.out; omega) 2166136261 (by decide)).mono fun _ _ ⟨g1, g2⟩ => ⟨g1, n, g2.symm⟩
                        rw [show (((2166136261 : Nat) : Int)) = 2166136261 from rfl] at hB
                        obtain ⟨X2, hX2⟩ : ∃ x : Nat, x = n4 bs 16 := ⟨_, rfl⟩
                        have hX2l : X2 < 4294967296 := by rw [hX2]; exact n4_lt _ _
                        rw [← hX2] at hA
                        have HX2 := Lib.hid hX2
                        clear hX2
                        obtain ⟨P1, hP1⟩ : ∃ x : Nat, x = sumV 2166136261 (seg bs 24 M) := ⟨_, rfl⟩
                        have hP1l : P1 < 4294967296 := by rw [hP1]; exact sumV_lt (by decide) _
                        rw [← hP1] at hB
                        have HP1 := Lib.hid hP1
                        clear hP1
                        have hC : ∀ n, Calls Try.prog 35 #[.int .u32 P1, .slice (if cap = F then some ⟨b, off, none⟩ else some ⟨b, off + F, none⟩) N (cap - F)] (w5.drewN n) fun e w'' => e = .returned (.int .u32 (sumV P1 (seg bs F N))) ∧ ∃ m, w'' = w5.drewN m := fun n => ((hS4.draws n).rsum2 (a := F) (m := N) (by omega) P1 hP1l).mono fun _ _ ⟨g1, g2⟩ => ⟨g1, n, g2.symm⟩
                        obtain ⟨Y2, hY2⟩ : ∃ x : Nat, x = sumV P1 (seg bs F N) := ⟨_, rfl⟩
                        have hY2l : Y2 < 4294967296 := by rw [hY2]; exact sumV_lt hP1l _
                        rw [← hY2] at hC
                        have HY2 := Lib.hid hY2
                        clear hY2
                        have hX2m : (X2 : Int) % 4294967296 = X2 := by omega
                        have CA := Lib.hid hA
                        have CB := Lib.hid hB
                        have CC := Lib.hid hC
                        clear hA hB hC
                        have HS4 := Lib.hid hS4
                        clear hS4
                        go_quiet (first | with_reducible exact CA.out _ | with_reducible exact CB.out _ | with_reducible exact CC.out _)
                        have hS5 := HS4.out.draws nq
                        generalize w5.drewN nq = w6 at *
                        clear HS4 CA CB CC
                        have HBel2 := Lib.hid hS5.below
                        have hSum : sumV (sumV firstV (seg bs 24 (n4 bs 4))) (seg bs (fromV bs) (n4 bs 8)) = Y2 := by
                          unfold fromV
                          rw [← HMM.out, ← HNN.out, ← HU.out, ← HF.out, HY2.out, HP1.out]; rfl
                        have HSum := Lib.hid hSum
                        clear hSum hS5
                        by_cases hXY3 : X2 = Y2
                        · have y1 : ((X2 : Int) != (Y2 : Int)) = false := by simp; omega
                          have HXY3 := Lib.hid hXY3
                          clear hXY3
                          have hE : lookE bs lm lb = 0 := by
                            rw [lookE, if_neg (by rw [HM.out]; simp), if_neg hl16, if_neg (by rw [← HX.out]; intro h; exact h (hXY2.out.trans HY.out)), if_neg (by rw [← HMM.out, ← HNN.out]; omega), if_neg HF2.out, if_neg HZ.out, if_neg (by rw [HSum.out, ← HX2.out]; intro h; exact h.2 HXY3.out)]
                          have hN : judgeN bs lm lb = F + V := by rw [judgeN, if_pos ⟨hE, by omega, by rw [HSz.out]; exact hge⟩]; exact HSz.out
                          have HE1 := Lib.hid hE
                          have HN1 := Lib.hid hN
                          clear hE hN
                          go_wp2_with fail
                          all_goals go_ret2
                          all_goals exact ⟨by rw [HE1.out, HN1.out]; rfl, HBel2.out⟩
                        · have y1 : ((X2 : Int) != (Y2 : Int)) = true := by simp; omega
                          have hE : lookE bs lm lb = 72 := by
                            rw [lookE, if_neg (by rw [HM.out]; simp), if_neg hl16, if_neg (by rw [← HX.out]; intro h; exact h (hXY2.out.trans HY.out)), if_neg (by rw [← HMM.out, ← HNN.out]; omega), if_neg HF2.out, if_neg HZ.out, if_pos ⟨by rw [HSz.out]; exact hge, by rw [HSum.out, ← HX2.out]; exact hXY3⟩]
                          have hN : judgeN bs lm lb = 0 := by rw [judgeN, if_neg (by rw [hE]; simp)]
                          have HE1 := Lib.hid hE
                          have HN1 := Lib.hid hN
                          clear hE hN
                          go_wp2_with fail
                          all_goals go_ret2
                          all_goals exact ⟨by rw [HE1.out, HN1.out]; rfl, HBel2.out⟩
                      · have hgi : ¬ ((F : Int) + V ≤ bs.length) := by omega
                        have hgi2 : (bs.length : Int) < (F : Int) + V := by omega
                        have hE : lookE bs lm lb = 0 := by
                          rw [lookE, if_neg (by rw [HM.out]; simp), if_neg hl16, if_neg (by rw [← HX.out]; intro h; exact h (hXY2.out.trans HY.out)), if_neg (by rw [← HMM.out, ← HNN.out]; omega), if_neg HF2.out, if_neg HZ.out, if_neg (by rw [HSz.out]; intro h; exact hge h.1)]
                        have hN : judgeN bs lm lb = 0 := by rw [judgeN, if_neg (by rw [HSz.out]; omega)]
                        have HE1 := Lib.hid hE
                        have HN1 := Lib.hid hN
                        clear hE hN hS4 d0 d1
                        go_wp2_with fail
                        all_goals go_ret2
                        all_goals exact ⟨by rw [HE1.out, HN1.out]; rfl, HBel.out⟩
              · have z6 : ((x3 : Int) == 48) = false := by simp; omega
                clear hF hFB
                go_wp2_with fail
                refine (up_calls (M : Int) (by omega) (by omega) _).mono ?_; rintro e w6 ⟨rfl, rfl⟩
                rw [pad_int]
                obtain ⟨U, hU⟩ : ∃ U, U = padU M := ⟨_, rfl⟩
                have hUb : M ≤ U ∧ U < M + 8 := by rw [hU]; exact padU_ge _
                rw [← hU]
                have HU := Lib.hid hU
                clear hU
                obtain ⟨F, hF2⟩ : ∃ F, F = 24 + U := ⟨_, rfl⟩
                have HF := Lib.hid hF2
                have hFb : 24 ≤ F ∧ F ≤ 65568 := by omega
                clear hF2
                go_wp2_with fail
                rw [show (24 : Int) + (U : Int) = (F : Int) from by have := HF.out; omega]
                refine (up_calls (N : Int) (by omega) (by omega) _).mono ?_; rintro e w6 ⟨rfl, rfl⟩
                rw [pad_int]
                obtain ⟨V, hV⟩ : ∃ V, V = padU N := ⟨_, rfl⟩
                have hVb : N ≤ V ∧ V < N + 8 := by rw [hV]; exact padU_ge _
                rw [← hV]
                have HV := Lib.hid hV
                clear hV
                go_wp2_with fail
                refine (zeros_calls hS4.read 20 24 (by omega) (by omega)).mono ?_; rintro e w6 ⟨rfl, rfl⟩
                obtain ⟨Z1, hZ1⟩ : ∃ z, z = zerosB bs 20 24 := ⟨_, rfl⟩
                rw [← hZ1]
                have HZ1 := Lib.hid hZ1
                clear hZ1
                go_wp2_with fail
                refine (zeros_calls hS4.read (24 + M) F (by omega) (by omega)).mono ?_; rintro e w6 ⟨rfl, rfl⟩
                obtain ⟨Z2, hZ2⟩ : ∃ z, z = zerosB bs (24 + M) F := ⟨_, rfl⟩
                rw [← hZ2]
                have HZ2 := Lib.hid hZ2
                clear hZ2
                go_wp2_with fail
                refine (zeros_calls hS4.read (F + N) (F + V) (by omega) (by omega)).mono ?_; rintro e w6 ⟨rfl, rfl⟩
                obtain ⟨Z3, hZ3⟩ : ∃ z, z = zerosB bs (F + N) (F + V) := ⟨_, rfl⟩
                rw [← hZ3]
                have HZ3 := Lib.hid hZ3
                clear hZ3
                cases Z1 with
                | false =>
                  have hE : lookE bs lm lb = 8 := by
                    rw [lookE, if_neg (by rw [HM.out]; simp), if_neg hl16, if_neg (by rw [← HX.out]; intro h; exact h (hXY2.out.trans HY.out)), if_neg (by rw [← HMM.out, ← HNN.out]; omega), if_neg HF2.out, if_pos (by unfold sizeV fromV; rw [← HMM.out, ← HNN.out, ← HU.out, ← HV.out, ← HF.out]; exact .inl HZ1.out.symm)]
                  have hN : judgeN bs lm lb = 0 := by rw [judgeN, if_neg (by rw [hE]; simp)]
                  have HE1 := Lib.hid hE
                  have HN1 := Lib.hid hN
                  clear hE hN hS4 d0 d1 e3
                  go_wp2_with fail
                  all_goals go_ret2
                  all_goals exact ⟨by rw [HE1.out, HN1.out]; rfl, HBel.out⟩
                | true =>
                  cases Z2 with
                  | false =>
                    have hE : lookE bs lm lb = 8 := by
                      rw [lookE, if_neg (by rw [HM.out]; simp), if_neg hl16, if_neg (by rw [← HX.out]; intro h; exact h (hXY2.out.trans HY.out)), if_neg (by rw [← HMM.out, ← HNN.out]; omega), if_neg HF2.out, if_pos (by unfold sizeV fromV; rw [← HMM.out, ← HNN.out, ← HU.out, ← HV.out, ← HF.out]; exact .inr (.inl HZ2.out.symm))]
                    have hN : judgeN bs lm lb = 0 := by rw [judgeN, if_neg (by rw [hE]; simp)]
                    have HE1 := Lib.hid hE
                    have HN1 := Lib.hid hN
                    clear hE hN hS4 d0 d1 e3
                    go_wp2_with fail
                    all_goals go_ret2
                    all_goals exact ⟨by rw [HE1.out, HN1.out]; rfl, HBel.out⟩
                  | true =>
                    cases Z3 with
                    | false =>
                      have hE : lookE bs lm lb = 8 := by
                        rw [lookE, if_neg (by rw [HM.out]; simp), if_neg hl16, if_neg (by rw [← HX.out]; intro h; exact h (hXY2.out.trans HY.out)), if_neg (by rw [← HMM.out, ← HNN.out]; omega), if_neg HF2.out, if_pos (by unfold sizeV fromV; rw [← HMM.out, ← HNN.out, ← HU.out, ← HV.out, ← HF.out]; exact .inr (.inr HZ3.out.symm))]
                      have hN : judgeN bs lm lb = 0 := by rw [judgeN, if_neg (by rw [hE]; simp)]
                      have HE1 := Lib.hid hE
                      have HN1 := Lib.hid hN
                      clear hE hN hS4 d0 d1 e3
                      go_wp2_with fail
                      all_goals go_ret2
                      all_goals exact ⟨by rw [HE1.out, HN1.out]; rfl, HBel.out⟩
                    | true =>
                      have hZ : ¬ (zerosB bs 20 24 = false ∨ zerosB bs (24 + n4 bs 4) (fromV bs) = false ∨ zerosB bs (fromV bs + n4 bs 8) (sizeV bs) = false) := by
                        unfold sizeV fromV
                        rw [← HMM.out, ← HNN.out, ← HU.out, ← HV.out, ← HF.out, ← HZ1.out, ← HZ2.out, ← HZ3.out]
                        simp
                      have HZ := Lib.hid hZ
                      clear hZ e3
                      have hSz : sizeV bs = F + V := by unfold sizeV fromV; rw [← HMM.out, ← HNN.out, ← HU.out, ← HV.out, ← HF.out]
                      have HSz := Lib.hid hSz
                      clear hSz
                      by_cases hge : F + V ≤ bs.length
                      · have hgi : (F : Int) + V ≤ bs.length := by omega
                        obtain ⟨e1, he1⟩ : ∃ e, e = 24 + M := ⟨_, rfl⟩
                        obtain ⟨e2, he2⟩ : ∃ e, e = F + N := ⟨_, rfl⟩
                        have x1 : e1 ≤ cap := by have := HF.out; omega
                        have x2 : (24 : Int) ≤ (e1 : Int) := by omega
                        have x3 : e2 ≤ cap := by omega
                        have x4 : F ≤ e2 := by omega
                        have x5 : e1 - 24 = M := by omega
                        have x6 : e2 - F = N := by omega
                        have x7 : 24 ≤ e1 := by omega
                        have x8 : (24 : Int) + (M : Int) = (e1 : Int) := by omega
                        have x9 : (F : Int) + (N : Int) = (e2 : Int) := by omega
                        have kz : ¬ cap = 16 := by omega
                        have k20 : (20 : Int) ≤ cap := by omega
                        have HE1e := Lib.hid he1
                        have HE2e := Lib.hid he2
                        clear he1 he2 d0 d1
                        go_wp2_with fail
                        have hA : ∀ n, Calls Try.prog 54 #[.slice (some ⟨b, off + 16, none⟩) (bs.length - 16) (cap - 16)] (w5.drewN n) fun e w'' => e = .returned (.int .i64 (n4 bs 16)) ∧ ∃ m, w'' = w5.drewN m := fun n => quiet_more ((hS4.draws n).rnum (a := 16) (by omega) (by omega) rfl (by omega) (by omega))
                        have hB : ∀ n, Calls Try.prog 35 #[.int .u32 (2166136261 : Nat), .slice (if cap = 24 then some ⟨b, off, none⟩ else some ⟨b, off + 24, none⟩) M (cap - 24)] (w5.drewN n) fun e w'' => e = .returned (.int .u32 (sumV 2166136261 (seg bs 24 M))) ∧ ∃ m, w'' = w5.drewN m := fun n => ((hS4.draws n).rsum2 (a := 24) (m := M) (by have := HF.out; omega) 2166136261 (by decide)).mono fun _ _ ⟨g1, g2⟩ => ⟨g1, n, g2.symm⟩
                        rw [show (((2166136261 : Nat) : Int)) = 2166136261 from rfl] at hB
                        obtain ⟨X2, hX2⟩ : ∃ x : Nat, x = n4 bs 16 := ⟨_, rfl⟩
                        have hX2l : X2 < 4294967296 := by rw [hX2]; exact n4_lt _ _
                        rw [← hX2] at hA
                        have HX2 := Lib.hid hX2
                        clear hX2
                        obtain ⟨P1, hP1⟩ : ∃ x : Nat, x = sumV 2166136261 (seg bs 24 M) := ⟨_, rfl⟩
                        have hP1l : P1 < 4294967296 := by rw [hP1]; exact sumV_lt (by decide) _
                        rw [← hP1] at hB
                        have HP1 := Lib.hid hP1
                        clear hP1
                        have hC : ∀ n, Calls Try.prog 35 #[.int .u32 P1, .slice (if cap = F then some ⟨b, off, none⟩ else some ⟨b, off + F, none⟩) N (cap - F)] (w5.drewN n) fun e w'' => e = .returned (.int .u32 (sumV P1 (seg bs F N))) ∧ ∃ m, w'' = w5.drewN m := fun n => ((hS4.draws n).rsum2 (a := F) (m := N) (by omega) P1 hP1l).mono fun _ _ ⟨g1, g2⟩ => ⟨g1, n, g2.symm⟩
                        obtain ⟨Y2, hY2⟩ : ∃ x : Nat, x = sumV P1 (seg bs F N) := ⟨_, rfl⟩
                        have hY2l : Y2 < 4294967296 := by rw [hY2]; exact sumV_lt hP1l _
                        rw [← hY2] at hC
                        have HY2 := Lib.hid hY2
                        clear hY2
                        have hX2m : (X2 : Int) % 4294967296 = X2 := by omega
                        have CA := Lib.hid hA
                        have CB := Lib.hid hB
                        have CC := Lib.hid hC
                        clear hA hB hC
                        have HS4 := Lib.hid hS4
                        clear hS4
                        go_quiet (first | with_reducible exact CA.out _ | with_reducible exact CB.out _ | with_reducible exact CC.out _)
                        have hS5 := HS4.out.draws nq
                        generalize w5.drewN nq = w6 at *
                        clear HS4 CA CB CC
                        have HBel2 := Lib.hid hS5.below
                        have hSum : sumV (sumV firstV (seg bs 24 (n4 bs 4))) (seg bs (fromV bs) (n4 bs 8)) = Y2 := by
                          unfold fromV
                          rw [← HMM.out, ← HNN.out, ← HU.out, ← HF.out, HY2.out, HP1.out]; rfl
                        have HSum := Lib.hid hSum
                        clear hSum hS5
                        by_cases hXY3 : X2 = Y2
                        · have y1 : ((X2 : Int) != (Y2 : Int)) = false := by simp; omega
                          have HXY3 := Lib.hid hXY3
                          clear hXY3
                          have hE : lookE bs lm lb = 0 := by
                            rw [lookE, if_neg (by rw [HM.out]; simp), if_neg hl16, if_neg (by rw [← HX.out]; intro h; exact h (hXY2.out.trans HY.out)), if_neg (by rw [← HMM.out, ← HNN.out]; omega), if_neg HF2.out, if_neg HZ.out, if_neg (by rw [HSum.out, ← HX2.out]; intro h; exact h.2 HXY3.out)]
                          have hN : judgeN bs lm lb = F + V := by rw [judgeN, if_pos ⟨hE, by omega, by rw [HSz.out]; exact hge⟩]; exact HSz.out
                          have HE1 := Lib.hid hE
                          have HN1 := Lib.hid hN
                          clear hE hN
                          go_wp2_with fail
                          all_goals go_ret2
                          all_goals exact ⟨by rw [HE1.out, HN1.out]; rfl, HBel2.out⟩
                        · have y1 : ((X2 : Int) != (Y2 : Int)) = true := by simp; omega
                          have hE : lookE bs lm lb = 72 := by
                            rw [lookE, if_neg (by rw [HM.out]; simp), if_neg hl16, if_neg (by rw [← HX.out]; intro h; exact h (hXY2.out.trans HY.out)), if_neg (by rw [← HMM.out, ← HNN.out]; omega), if_neg HF2.out, if_neg HZ.out, if_pos ⟨by rw [HSz.out]; exact hge, by rw [HSum.out, ← HX2.out]; exact hXY3⟩]
                          have hN : judgeN bs lm lb = 0 := by rw [judgeN, if_neg (by rw [hE]; simp)]
                          have HE1 := Lib.hid hE
                          have HN1 := Lib.hid hN
                          clear hE hN
                          go_wp2_with fail
                          all_goals go_ret2
                          all_goals exact ⟨by rw [HE1.out, HN1.out]; rfl, HBel2.out⟩
                      · have hgi : ¬ ((F : Int) + V ≤ bs.length) := by omega
                        have hgi2 : (bs.length : Int) < (F : Int) + V := by omega
                        have hE : lookE bs lm lb = 0 := by
                          rw [lookE, if_neg (by rw [HM.out]; simp), if_neg hl16, if_neg (by rw [← HX.out]; intro h; exact h (hXY2.out.trans HY.out)), if_neg (by rw [← HMM.out, ← HNN.out]; omega), if_neg HF2.out, if_neg HZ.out, if_neg (by rw [HSz.out]; intro h; exact hge h.1)]
                        have hN : judgeN bs lm lb = 0 := by rw [judgeN, if_neg (by rw [HSz.out]; omega)]
                        have HE1 := Lib.hid hE
                        have HN1 := Lib.hid hN
                        clear hE hN hS4 d0 d1
                        go_wp2_with fail
                        all_goals go_ret2
                        all_goals exact ⟨by rw [HE1.out, HN1.out]; rfl, HBel.out⟩
      · have z1 : ((X : Int) != (Y : Int)) = true := by simp; omega
        have hE : lookE bs lm lb = 72 := by
          rw [lookE, if_neg (by rw [HM.out]; simp), if_neg hl16, if_pos (by rw [← HX.out]; intro h; exact hXY (h.trans HY.out.symm))]
        have hN : judgeN bs lm lb = 0 := by rw [judgeN, if_neg (by rw [hE]; simp)]
        have HE1 := Lib.hid hE
        have HN1 := Lib.hid hN
        clear hE hN hS4
        go_wp2_with fail
        all_goals go_ret2
        all_goals exact ⟨by rw [HE1.out, HN1.out]; rfl, HBel.out⟩

end Go.Proofs.Ytcebdodogbpglaa.Rdr
