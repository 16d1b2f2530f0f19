import Derived.Test.YtajaonnpekdklaaBackB
import Derived.Test.YtajaonnpekdklaaInkD
import Derived.Laws.DeepStrings4
set_option linter.unusedVariables false
set_option maxRecDepth 100000
/-! THE WALK OF VIEWBACK. -/
namespace Go.Proofs.Ytajaonnpekdklaa.Vw
open Go.ChangeShapes Go.WideShapes Go.ChangeAt Go.RowKit Mem

theorem recap {L : Nat → Nat} {c : Nat} {w : World} {q : Option Addr} {n cap : Nat} {xs : List Value} {size : Nat} (h : Rd L c w size (.slice q n cap) n xs) (k : Nat) (hk : n ≤ k) (hk2 : k ≤ maxLen) : Rd L c w size (.slice q n k) n xs := by
  obtain ⟨h1, q', cap', hv, hn, hmx, hc⟩ := h
  cases hv
  exact ⟨h1, _, _, rfl, hk, hk2, hc⟩

/-- A view in a variable of the walk's own. -/
def Boxed (L : Nat → Nat) (w : World) (b : Nat) (x0 x1 x2 : Value) : Prop := L b = 9 ∧ w.cell? ⟨b, 0, none⟩ = some x0 ∧ w.cell? ⟨b, 1, none⟩ = some x1 ∧ w.cell? ⟨b, 2, none⟩ = some x2
theorem Boxed.step {L L' : Nat → Nat} {w w' : World} {C : Nat → Prop} {b : Nat} {x0 x1 x2 : Value} (h : Boxed L w b x0 x1 x2) (st : Step C L w L' w') (hC : ¬ C 9) : Boxed L' w' b x0 x1 x2 := by
  obtain ⟨h0, h1, h2, h3⟩ := h
  exact ⟨(st.col b (World.block_lt_of_cell? w _ h1)).trans h0, st.cell h1 (by rw [h0]; exact hC), st.cell h2 (by rw [h0]; exact hC), st.cell h3 (by rw [h0]; exact hC)⟩
theorem Boxed.new (L : Nat → Nat) (w : World) (x0 x1 x2 : Value) : Step (fun _ => False) L w (ext L w.heap.size 9) (w.alloc (.cells #[x0, x1, x2] 51)) ∧ Boxed (ext L w.heap.size 9) (w.alloc (.cells #[x0, x1, x2] 51)) w.heap.size x0 x1 x2 :=
  ⟨Step.of_below (below_alloc w _) _ 9, ext_new (Nat.le_refl _), by simp, by simp, by simp⟩

set_option maxHeartbeats 1000000 in
theorem back_walk {w : World} (s : ByteArray) (hs : s.size ≤ maxLen) (x : Nat) (hx : x ≤ 18446744073709551615) (c : Int) (hc : -9223372036854775808 ≤ c) (hc2 : c ≤ 9223372036854775807) :
    Calls Try.prog 8 #[.string s, .int .u64 x, .int .i64 c] w fun e w' => e = .returned (.bool true) ∧ Below w.heap.size w w' := by
  unfold maxLen at hs
  obtain ⟨P, hP⟩ : ∃ P : Nat, (P : Int) = pickV c 4 := ⟨(pickV c 4).toNat, by have := pickV_lt c (n := 4) (by decide); omega⟩
  have hP4 : P < 4 := by have := pickV_lt c (n := 4) (by decide); omega
  have HP := Lib.hid hP
  clear hP
  go_enter Try.func8, Try.ntmps8
  go_wp2_with fail
  go_loop [7, 8] (fun a b => ∃ i wd : Nat, i ≤ P ∧ wd = 2 ^ i ∧ a = .int .i64 wd ∧ b = .int .i64 i) (fun _ b => P - (intOf b).toNat)
  case atStart => exact ⟨0, 1, by omega, rfl, rfl, rfl⟩
  case round =>
    obtain ⟨i, wd, hi, hwi, rfl, rfl⟩ := hrel
    have HW := Lib.hid hwi
    clear hwi
    go_wp2_with fail
    refine (pick_calls w c 4 hc hc2 (by decide)).mono ?_; rintro e w1 ⟨rfl, rfl⟩
    rw [← HP.out]
    by_cases hlt : i < P
    · have hb : wd ≤ 8 := by
        have : i < 3 := by omega
        have hwi := HW.out
        rcases i with _ | _ | _ | i <;> first | (subst hwi; decide) | omega
      go_wp2_with fail
      go_round
      case rel => exact ⟨i + 1, 2 * wd, by omega, by rw [HW.out, Nat.pow_succ]; omega, by go_num, by go_num⟩
      case measure => simp [intOf]; omega
    · have he : i = P := by omega
      subst he
      have hwd : Wd wd := by
        have hwi := HW.out
        rcases i with _ | _ | _ | _ | i <;> first | (subst hwi; decide) | (exfalso; omega)
      have HD := Lib.hid hwd
      have hb : 1 ≤ wd ∧ wd ≤ 8 := by rcases hwd with h | h | h | h <;> omega
      clear hwd
      by_cases q1 : 16777216 - (wd : Int) < s.size
      · go_wp2_with fail
        have hmin : min (16777216 - wd) s.size = (s.extract 0 (16777216 - wd)).size := by rw [ByteArray.size_extract]; omega
        have ht2 : (s.extract 0 (16777216 - wd)).size ≤ 16777216 - wd := by rw [ByteArray.size_extract]; omega
        rw [hmin]
        generalize hst : s.extract 0 (16777216 - wd) = t at *
        clear hmin hst q1 hs
        refine (Ink.new_calls (fun _ => 0) 1 w _).mono ?_; rintro e w1 ⟨rfl, s1, k1⟩
        rw [most_is HD.out ht2] at k1
        go_wp2_with fail
        refine (Ink.text_calls k1 (by simp; omega) (by omega) t (by unfold maxLen; omega)).mono ?_; rintro e w2 ⟨rfl, L2, s2, k2⟩
        rw [text_is]
        rw [textB_is] at k2
        go_wp2_with fail
        refine (Ink.number_calls k2 (by simp; omega) (by omega) x wd (by omega) (by omega)).mono ?_; rintro e w3 ⟨rfl, L3, s3, k3⟩
        rw [number_is HD.out]
        rw [numberB_is HD.out] at k3
        go_wp2_with fail
        refine (Ink.fill_calls k3 (by rw [laid_length]; omega) (by omega) 1 0).mono ?_; rintro e w4 ⟨rfl, L4, s4, k4⟩
        rw [fill_is]
        rw [fillB_is] at k4
        go_wp2_with fail
        refine (Ink.bytes_calls L4 1 2 w4 k4 (by rw [laid_length]; omega)).mono ?_; rintro e w5 ⟨v5, rfl, s5, o5⟩
        have S5 := (((s1.mono (D := fun c => 1 ≤ c) (by simp)).trans (s2.mono (by rintro _ rfl; decide))).trans ((s3.mono (by rintro _ rfl; decide)).trans (s4.mono (by rintro _ rfl; decide)))).trans (s5.mono (by simp))
        have r5 := o5.rd
        obtain ⟨p5, cap5, hv5, hn5, hm5⟩ := r5.shape
        subst hv5
        clear s1 s2 s3 s4 s5 k1 k2 k3 k4 o5
        generalize ext L4 w4.heap.size 2 = L5 at *
        unfold maxLen at hm5
        go_wp2_with fail
        refine (of_calls p5 _ cap5 hn5 hm5).mono ?_; rintro e w6 ⟨rfl, b6⟩
        have s6 := Step.of_below (L := L5) b6 (fun _ => False) 0
        have r6 := r5.step s6 (by simp)
        have S6 := S5.trans (s6.mono (by simp))
        clear s6 b6 r5 S5
        generalize ext L5 w5.heap.size 0 = L6 at *
        go_wp2_with fail
        obtain ⟨sn, bx⟩ := Boxed.new L6 w6 (.slice p5 (laidB t x wd).length (laidB t x wd).length) (.int .i64 0) (.pointer none)
        have r7 := r6.step sn (by simp)
        have S7 := S6.trans (sn.mono (by simp))
        clear sn r6 S6
        generalize hvb : w6.heap.size = vb at *
        generalize ext L6 vb 9 = L7 at *
        generalize hw7 : w6.alloc _ = w7 at *
        clear hvb hw7
        obtain ⟨X, hX⟩ : ∃ X : Nat, X = x % 256 ^ wd := ⟨_, rfl⟩
        have HX := Lib.hid hX
        clear hX
        refine (load_calls (L := L7) (c0 := 2) (u := none) (c := 5) (l := []) (by decide) (fun wb hu => by cases hu) (by simp) (recap r7 _ (Nat.le_refl _) (by rw [laid_length]; unfold maxLen; omega)) 0 (by omega) (by rw [laid_length]; omega) t.size wd (by omega)).mono ?_; rintro e w8 ⟨rfl, L8, s8, _⟩
        rw [loadE_is HD.out, loadV_is HD.out, ← HX.out]
        have r8 := r7.step s8 (by decide)
        have S8 := S7.trans (s8.mono (by rintro _ rfl; decide))
        have bx := bx.step s8 (by decide)
        clear s8 r7 S7
        have b0 := bx.2.1
        have b1 := bx.2.2.1
        have b2 := bx.2.2.2
        go_wp2_with fail
        refine (signed_calls (L := L8) (c0 := 2) (u := none) (c := 5) (l := []) (by decide) (fun wb hu => by cases hu) (by simp) (recap r8 _ (Nat.le_refl _) (by rw [laid_length]; unfold maxLen; omega)) 0 (by omega) (by rw [laid_length]; omega) t.size wd (by omega)).mono ?_; rintro e w9 ⟨rfl, L9, s9, _⟩
        rw [loadE_is HD.out, signed_is HD.out, ← HX.out]
        have r9 := r8.step s9 (by decide)
        have S9 := S8.trans (s9.mono (by rintro _ rfl; decide))
        have bx := bx.step s9 (by decide)
        clear s9 r8 S8 b0 b1 b2
        have b0 := bx.2.1
        have b1 := bx.2.2.1
        have b2 := bx.2.2.2
        go_wp2_with fail
        refine (vtext_calls (L := L9) (c0 := 2) (u := none) (c := 5) (l := []) (by decide) (fun wb hu => by cases hu) (by simp) (recap r9 _ (Nat.le_refl _) (by rw [laid_length]; unfold maxLen; omega)) 0 (by omega) (by rw [laid_length]; omega) 0 t.size (by omega)).mono ?_; rintro e wa ⟨rfl, La, sa, _⟩
        rw [vtextE_is, vtextV_is]
        have Sa := S9.trans (sa.mono (by rintro _ rfl; decide))
        have bx := bx.step sa (by decide)
        clear sa r9 S9 b0 b1 b2
        have b0 := bx.2.1
        have b1 := bx.2.2.1
        have b2 := bx.2.2.2
        go_wp2_with fail
        go_loop [20, 21] (fun a b => ∃ k Y : Nat, wd ≤ k ∧ k ≤ 8 ∧ Y % 256 ^ wd = X ∧ Y ≤ 18446744073709551615 ∧ (wd < k → Y = X) ∧ a = .int .u64 Y ∧ b = .int .i64 k) (fun _ b => 8 - (intOf b).toNat)
        case atStart => exact ⟨wd, x, by omega, by omega, HX.out.symm, hx, fun h => absurd h (by omega), rfl, rfl⟩
        case round =>
          obtain ⟨k, Y, hk1, hk2, hY, hY2, hYX, rfl, rfl⟩ := hrel
          have HYm := Lib.hid hY
          have HYX := Lib.hid hYX
          clear hY hYX
          by_cases hk : k < 8
          · have hyy : Y % 256 ^ wd = X := HYm.out
            rcases HD.out with h1 | h1 | h1 | h1
            · subst h1
              have hyn : Y % 256 = X := hyy
              clear hyy
              go_wp2_with fail
              go_round
              case rel => exact ⟨k + 1, X, by omega, by omega, (by show X % 256 = X; omega), by omega, fun _ => rfl, by congr 1; omega, by go_num⟩
              case measure => simp [intOf]; omega
            · subst h1
              have hyn : Y % 65536 = X := hyy
              clear hyy
              go_wp2_with fail
              go_round
              case rel => exact ⟨k + 1, X, by omega, by omega, (by show X % 65536 = X; omega), by omega, fun _ => rfl, by congr 1; omega, by go_num⟩
              case measure => simp [intOf]; omega
            · subst h1
              have hyn : Y % 4294967296 = X := hyy
              clear hyy
              go_wp2_with fail
              go_round
              case rel => exact ⟨k + 1, X, by omega, by omega, (by show X % 4294967296 = X; omega), by omega, fun _ => rfl, by congr 1; omega, by go_num⟩
              case measure => simp [intOf]; omega
            · omega
          · have hk8 : k = 8 := by omega
            subst hk8
            have hYe : Y = X := last_is HD.out HYm.out hY2 HYX.out
            subst hYe
            clear HYm HYX
            have hXlt : Y < 256 ^ wd := by rw [HX.out]; exact Nat.mod_lt _ (Nat.pow_pos (by decide))
            obtain ⟨Z, hZ, hZm, hZ2⟩ := low_is HD.out hXlt
            have HXL := Lib.hid hXlt
            clear hXlt
            go_wp2_with fail
            go_loop [22, 23] (fun a b => ∃ k Z : Nat, wd ≤ k ∧ k ≤ 8 ∧ Z % 256 ^ wd = Y ∧ Z ≤ 18446744073709551615 ∧ (wd < k → Z = Y) ∧ a = .int .u64 Z ∧ b = .int .i64 k) (fun _ b => 8 - (intOf b).toNat)
            case atStart => exact ⟨wd, Z, by omega, by omega, hZm, hZ2, fun h => absurd h (by omega), by rw [← hZ], rfl⟩
            case round =>
              clear hZm hZ2
              obtain ⟨k, Z2, hj1, hj2, hZ3, hZ4, hZX, rfl, rfl⟩ := hrel
              have HZm := Lib.hid hZ3
              have HZX := Lib.hid hZX
              clear hZ3 hZX
              by_cases hk : k < 8
              · have hyy : Z2 % 256 ^ wd = Y := HZm.out
                rcases HD.out with h1 | h1 | h1 | h1
                · subst h1
                  have hyn : Z2 % 256 = Y := hyy
                  clear hyy
                  go_wp2_with fail
                  go_round
                  case rel => exact ⟨k + 1, Y, by omega, by omega, (by show Y % 256 = Y; omega), by omega, fun _ => rfl, by congr 1; omega, by go_num⟩
                  case measure => simp [intOf]; omega
                · subst h1
                  have hyn : Z2 % 65536 = Y := hyy
                  clear hyy
                  go_wp2_with fail
                  go_round
                  case rel => exact ⟨k + 1, Y, by omega, by omega, (by show Y % 65536 = Y; omega), by omega, fun _ => rfl, by congr 1; omega, by go_num⟩
                  case measure => simp [intOf]; omega
                · subst h1
                  have hyn : Z2 % 4294967296 = Y := hyy
                  clear hyy
                  go_wp2_with fail
                  go_round
                  case rel => exact ⟨k + 1, Y, by omega, by omega, (by show Y % 4294967296 = Y; omega), by omega, fun _ => rfl, by congr 1; omega, by go_num⟩
                  case measure => simp [intOf]; omega
                · omega
              · have hk8 : k = 8 := by omega
                subst hk8
                have hZe : Z2 = Y := last_is HD.out HZm.out hZ4 HZX.out
                subst hZe
                clear HZm HZX
                have hng := sign_neg HD.out HXL.out
                have HNG := Lib.hid hng
                clear hng
                rcases HD.out with h1 | h1 | h1 | h1
                · subst h1
                  have hng : decide (signV Z2 1 < 0) = decide ((128 : Int) ≤ Z2) := HNG.out
                  obtain ⟨f, hf⟩ : ∃ f : Bool, f = decide ((128 : Int) ≤ Z2) := ⟨_, rfl⟩
                  rw [← hf] at hng
                  have hf2 := hf.symm
                  have q2 : (f == f) = true := by simp
                  have q3 : ((Z2 : Int) == Z2) = true := by simp
                  have q4 : ((laidB t x 1).length : Int) = t.size + 1 := by rw [laid_length]; rfl
                  clear hf
                  go_wp2_with fail
                  refine (len_calls p5 _ _ _ _).mono ?_; rintro e wb ⟨rfl, bb⟩
                  go_wp2_with fail
                  go_ret
                  have hbw := Sa.below (Nat.le_refl _) (fun k hk => by decide)
                  exact ⟨rfl, hbw.trans (bb.mono hbw.size)⟩
                · subst h1
                  have hng : decide (signV Z2 2 < 0) = decide ((32768 : Int) ≤ Z2) := HNG.out
                  obtain ⟨f, hf⟩ : ∃ f : Bool, f = decide ((32768 : Int) ≤ Z2) := ⟨_, rfl⟩
                  rw [← hf] at hng
                  have hf2 := hf.symm
                  have q2 : (f == f) = true := by simp
                  have q3 : ((Z2 : Int) == Z2) = true := by simp
                  have q4 : ((laidB t x 2).length : Int) = t.size + 2 := by rw [laid_length]; rfl
                  clear hf
                  go_wp2_with fail
                  refine (len_calls p5 _ _ _ _).mono ?_; rintro e wb ⟨rfl, bb⟩
                  go_wp2_with fail
                  go_ret
                  have hbw := Sa.below (Nat.le_refl _) (fun k hk => by decide)
                  exact ⟨rfl, hbw.trans (bb.mono hbw.size)⟩
                · subst h1
                  have hng : decide (signV Z2 4 < 0) = decide ((2147483648 : Int) ≤ Z2) := HNG.out
                  obtain ⟨f, hf⟩ : ∃ f : Bool, f = decide ((2147483648 : Int) ≤ Z2) := ⟨_, rfl⟩
                  rw [← hf] at hng
                  have hf2 := hf.symm
                  have q2 : (f == f) = true := by simp
                  have q3 : ((Z2 : Int) == Z2) = true := by simp
                  have q4 : ((laidB t x 4).length : Int) = t.size + 4 := by rw [laid_length]; rfl
                  clear hf
                  go_wp2_with fail
                  refine (len_calls p5 _ _ _ _).mono ?_; rintro e wb ⟨rfl, bb⟩
                  go_wp2_with fail
                  go_ret
                  have hbw := Sa.below (Nat.le_refl _) (fun k hk => by decide)
                  exact ⟨rfl, hbw.trans (bb.mono hbw.size)⟩
                · subst h1
                  have hng : decide (signV Z2 8 < 0) = decide ((9223372036854775808 : Int) ≤ Z2) := HNG.out
                  obtain ⟨f, hf⟩ : ∃ f : Bool, f = decide ((9223372036854775808 : Int) ≤ Z2) := ⟨_, rfl⟩
                  rw [← hf] at hng
                  have hf2 := hf.symm
                  have q2 : (f == f) = true := by simp
                  have q3 : ((Z2 : Int) == Z2) = true := by simp
                  have q4 : ((laidB t x 8).length : Int) = t.size + 8 := by rw [laid_length]; rfl
                  clear hf
                  go_wp2_with fail
                  refine (len_calls p5 _ _ _ _).mono ?_; rintro e wb ⟨rfl, bb⟩
                  go_wp2_with fail
                  go_ret
                  have hbw := Sa.below (Nat.le_refl _) (fun k hk => by decide)
                  exact ⟨rfl, hbw.trans (bb.mono hbw.size)⟩
      · go_wp2_with fail
        have ht2 : s.size ≤ 16777216 - wd := by omega
        rename ByteArray => t
        clear q1 hs
        refine (Ink.new_calls (fun _ => 0) 1 w _).mono ?_; rintro e w1 ⟨rfl, s1, k1⟩
        rw [most_is HD.out ht2] at k1
        go_wp2_with fail
        refine (Ink.text_calls k1 (by simp; omega) (by omega) t (by unfold maxLen; omega)).mono ?_; rintro e w2 ⟨rfl, L2, s2, k2⟩
        rw [text_is]
        rw [textB_is] at k2
        go_wp2_with fail
        refine (Ink.number_calls k2 (by simp; omega) (by omega) x wd (by omega) (by omega)).mono ?_; rintro e w3 ⟨rfl, L3, s3, k3⟩
        rw [number_is HD.out]
        rw [numberB_is HD.out] at k3
        go_wp2_with fail
        refine (Ink.fill_calls k3 (by rw [laid_length]; omega) (by omega) 1 0).mono ?_; rintro e w4 ⟨rfl, L4, s4, k4⟩
        rw [fill_is]
        rw [fillB_is] at k4
        go_wp2_with fail
        refine (Ink.bytes_calls L4 1 2 w4 k4 (by rw [laid_length]; omega)).mono ?_; rintro e w5 ⟨v5, rfl, s5, o5⟩
        have S5 := (((s1.mono (D := fun c => 1 ≤ c) (by simp)).trans (s2.mono (by rintro _ rfl; decide))).trans ((s3.mono (by rintro _ rfl; decide)).trans (s4.mono (by rintro _ rfl; decide)))).trans (s5.mono (by simp))
        have r5 := o5.rd
        obtain ⟨p5, cap5, hv5, hn5, hm5⟩ := r5.shape
        subst hv5
        clear s1 s2 s3 s4 s5 k1 k2 k3 k4 o5
        generalize ext L4 w4.heap.size 2 = L5 at *
        unfold maxLen at hm5
        go_wp2_with fail
        refine (of_calls p5 _ cap5 hn5 hm5).mono ?_; rintro e w6 ⟨rfl, b6⟩
        have s6 := Step.of_below (L := L5) b6 (fun _ => False) 0
        have r6 := r5.step s6 (by simp)
        have S6 := S5.trans (s6.mono (by simp))
        clear s6 b6 r5 S5
        generalize ext L5 w5.heap.size 0 = L6 at *
        go_wp2_with fail
        obtain ⟨sn, bx⟩ := Boxed.new L6 w6 (.slice p5 (laidB t x wd).length (laidB t x wd).length) (.int .i64 0) (.pointer none)
        have r7 := r6.step sn (by simp)
        have S7 := S6.trans (sn.mono (by simp))
        clear sn r6 S6
        generalize hvb : w6.heap.size = vb at *
        generalize ext L6 vb 9 = L7 at *
        generalize hw7 : w6.alloc _ = w7 at *
        clear hvb hw7
        obtain ⟨X, hX⟩ : ∃ X : Nat, X = x % 256 ^ wd := ⟨_, rfl⟩
        have HX := Lib.hid hX
        clear hX
        refine (load_calls (L := L7) (c0 := 2) (u := none) (c := 5) (l := []) (by decide) (fun wb hu => by cases hu) (by simp) (recap r7 _ (Nat.le_refl _) (by rw [laid_length]; unfold maxLen; omega)) 0 (by omega) (by rw [laid_length]; omega) t.size wd (by omega)).mono ?_; rintro e w8 ⟨rfl, L8, s8, _⟩
        rw [loadE_is HD.out, loadV_is HD.out, ← HX.out]
        have r8 := r7.step s8 (by decide)
        have S8 := S7.trans (s8.mono (by rintro _ rfl; decide))
        have bx := bx.step s8 (by decide)
        clear s8 r7 S7
        have b0 := bx.2.1
        have b1 := bx.2.2.1
        have b2 := bx.2.2.2
        go_wp2_with fail
        refine (signed_calls (L := L8) (c0 := 2) (u := none) (c := 5) (l := []) (by decide) (fun wb hu => by cases hu) (by simp) (recap r8 _ (Nat.le_refl _) (by rw [laid_length]; unfold maxLen; omega)) 0 (by omega) (by rw [laid_length]; omega) t.size wd (by omega)).mono ?_; rintro e w9 ⟨rfl, L9, s9, _⟩
        rw [loadE_is HD.out, signed_is HD.out, ← HX.out]
        have r9 := r8.step s9 (by decide)
        have S9 := S8.trans (s9.mono (by rintro _ rfl; decide))
        have bx := bx.step s9 (by decide)
        clear s9 r8 S8 b0 b1 b2
        have b0 := bx.2.1
        have b1 := bx.2.2.1
        have b2 := bx.2.2.2
        go_wp2_with fail
        refine (vtext_calls (L := L9) (c0 := 2) (u := none) (c := 5) (l := []) (by decide) (fun wb hu => by cases hu) (by simp) (recap r9 _ (Nat.le_refl _) (by rw [laid_length]; unfold maxLen; omega)) 0 (by omega) (by rw [laid_length]; omega) 0 t.size (by omega)).mono ?_; rintro e wa ⟨rfl, La, sa, _⟩
        rw [vtextE_is, vtextV_is]
        have Sa := S9.trans (sa.mono (by rintro _ rfl; decide))
        have bx := bx.step sa (by decide)
        clear sa r9 S9 b0 b1 b2
        have b0 := bx.2.1
        have b1 := bx.2.2.1
        have b2 := bx.2.2.2
        go_wp2_with fail
        go_loop [20, 21] (fun a b => ∃ k Y : Nat, wd ≤ k ∧ k ≤ 8 ∧ Y % 256 ^ wd = X ∧ Y ≤ 18446744073709551615 ∧ (wd < k → Y = X) ∧ a = .int .u64 Y ∧ b = .int .i64 k) (fun _ b => 8 - (intOf b).toNat)
        case atStart => exact ⟨wd, x, by omega, by omega, HX.out.symm, hx, fun h => absurd h (by omega), rfl, rfl⟩
        case round =>
          obtain ⟨k, Y, hk1, hk2, hY, hY2, hYX, rfl, rfl⟩ := hrel
          have HYm := Lib.hid hY
          have HYX := Lib.hid hYX
          clear hY hYX
          by_cases hk : k < 8
          · have hyy : Y % 256 ^ wd = X := HYm.out
            rcases HD.out with h1 | h1 | h1 | h1
            · subst h1
              have hyn : Y % 256 = X := hyy
              clear hyy
              go_wp2_with fail
              go_round
              case rel => exact ⟨k + 1, X, by omega, by omega, (by show X % 256 = X; omega), by omega, fun _ => rfl, by congr 1; omega, by go_num⟩
              case measure => simp [intOf]; omega
            · subst h1
              have hyn : Y % 65536 = X := hyy
              clear hyy
              go_wp2_with fail
              go_round
              case rel => exact ⟨k + 1, X, by omega, by omega, (by show X % 65536 = X; omega), by omega, fun _ => rfl, by congr 1; omega, by go_num⟩
              case measure => simp [intOf]; omega
            · subst h1
              have hyn : Y % 4294967296 = X := hyy
              clear hyy
              go_wp2_with fail
              go_round
              case rel => exact ⟨k + 1, X, by omega, by omega, (by show X % 4294967296 = X; omega), by omega, fun _ => rfl, by congr 1; omega, by go_num⟩
              case measure => simp [intOf]; omega
            · omega
          · have hk8 : k = 8 := by omega
            subst hk8
            have hYe : Y = X := last_is HD.out HYm.out hY2 HYX.out
            subst hYe
            clear HYm HYX
            have hXlt : Y < 256 ^ wd := by rw [HX.out]; exact Nat.mod_lt _ (Nat.pow_pos (by decide))
            obtain ⟨Z, hZ, hZm, hZ2⟩ := low_is HD.out hXlt
            have HXL := Lib.hid hXlt
            clear hXlt
            go_wp2_with fail
            go_loop [22, 23] (fun a b => ∃ k Z : Nat, wd ≤ k ∧ k ≤ 8 ∧ Z % 256 ^ wd = Y ∧ Z ≤ 18446744073709551615 ∧ (wd < k → Z = Y) ∧ a = .int .u64 Z ∧ b = .int .i64 k) (fun _ b => 8 - (intOf b).toNat)
            case atStart => exact ⟨wd, Z, by omega, by omega, hZm, hZ2, fun h => absurd h (by omega), by rw [← hZ], rfl⟩
            case round =>
              clear hZm hZ2
              obtain ⟨k, Z2, hj1, hj2, hZ3, hZ4, hZX, rfl, rfl⟩ := hrel
              have HZm := Lib.hid hZ3
              have HZX := Lib.hid hZX
              clear hZ3 hZX
              by_cases hk : k < 8
              · have hyy : Z2 % 256 ^ wd = Y := HZm.out
                rcases HD.out with h1 | h1 | h1 | h1
                · subst h1
                  have hyn : Z2 % 256 = Y := hyy
                  clear hyy
                  go_wp2_with fail
                  go_round
                  case rel => exact ⟨k + 1, Y, by omega, by omega, (by show Y % 256 = Y; omega), by omega, fun _ => rfl, by congr 1; omega, by go_num⟩
                  case measure => simp [intOf]; omega
                · subst h1
                  have hyn : Z2 % 65536 = Y := hyy
                  clear hyy
                  go_wp2_with fail
                  go_round
                  case rel => exact ⟨k + 1, Y, by omega, by omega, (by show Y % 65536 = Y; omega), by omega, fun _ => rfl, by congr 1; omega, by go_num⟩
                  case measure => simp [intOf]; omega
                · subst h1
                  have hyn : Z2 % 4294967296 = Y := hyy
                  clear hyy
                  go_wp2_with fail
                  go_round
                  case rel => exact ⟨k + 1, Y, by omega, by omega, (by show Y % 4294967296 = Y; omega), by omega, fun _ => rfl, by congr 1; omega, by go_num⟩
                  case measure => simp [intOf]; omega
                · omega
              · have hk8 : k = 8 := by omega
                subst hk8
                have hZe : Z2 = Y := last_is HD.out HZm.out hZ4 HZX.out
                subst hZe
                clear HZm HZX
                have hng := sign_neg HD.out HXL.out
                have HNG := Lib.hid hng
                clear hng
                rcases HD.out with h1 | h1 | h1 | h1
                · subst h1
                  have hng : decide (signV Z2 1 < 0) = decide ((128 : Int) ≤ Z2) := HNG.out
                  obtain ⟨f, hf⟩ : ∃ f : Bool, f = decide ((128 : Int) ≤ Z2) := ⟨_, rfl⟩
                  rw [← hf] at hng
                  have hf2 := hf.symm
                  have q2 : (f == f) = true := by simp
                  have q3 : ((Z2 : Int) == Z2) = true := by simp
                  have q4 : ((laidB t x 1).length : Int) = t.size + 1 := by rw [laid_length]; rfl
                  clear hf
                  go_wp2_with fail
                  refine (len_calls p5 _ _ _ _).mono ?_; rintro e wb ⟨rfl, bb⟩
                  go_wp2_with fail
                  go_ret
                  have hbw := Sa.below (Nat.le_refl _) (fun k hk => by decide)
                  exact ⟨rfl, hbw.trans (bb.mono hbw.size)⟩
                · subst h1
                  have hng : decide (signV Z2 2 < 0) = decide ((32768 : Int) ≤ Z2) := HNG.out
                  obtain ⟨f, hf⟩ : ∃ f : Bool, f = decide ((32768 : Int) ≤ Z2) := ⟨_, rfl⟩
                  rw [← hf] at hng
                  have hf2 := hf.symm
                  have q2 : (f == f) = true := by simp
                  have q3 : ((Z2 : Int) == Z2) = true := by simp
                  have q4 : ((laidB t x 2).length : Int) = t.size + 2 := by rw [laid_length]; rfl
                  clear hf
                  go_wp2_with fail
                  refine (len_calls p5 _ _ _ _).mono ?_; rintro e wb ⟨rfl, bb⟩
                  go_wp2_with fail
                  go_ret
                  have hbw := Sa.below (Nat.le_refl _) (fun k hk => by decide)
                  exact ⟨rfl, hbw.trans (bb.mono hbw.size)⟩
                · subst h1
                  have hng : decide (signV Z2 4 < 0) = decide ((2147483648 : Int) ≤ Z2) := HNG.out
                  obtain ⟨f, hf⟩ : ∃ f : Bool, f = decide ((2147483648 : Int) ≤ Z2) := ⟨_, rfl⟩
                  rw [← hf] at hng
                  have hf2 := hf.symm
                  have q2 : (f == f) = true := by simp
                  have q3 : ((Z2 : Int) == Z2) = true := by simp
                  have q4 : ((laidB t x 4).length : Int) = t.size + 4 := by rw [laid_length]; rfl
                  clear hf
                  go_wp2_with fail
                  refine (len_calls p5 _ _ _ _).mono ?_; rintro e wb ⟨rfl, bb⟩
                  go_wp2_with fail
                  go_ret
                  have hbw := Sa.below (Nat.le_refl _) (fun k hk => by decide)
                  exact ⟨rfl, hbw.trans (bb.mono hbw.size)⟩
                · subst h1
                  have hng : decide (signV Z2 8 < 0) = decide ((9223372036854775808 : Int) ≤ Z2) := HNG.out
                  obtain ⟨f, hf⟩ : ∃ f : Bool, f = decide ((9223372036854775808 : Int) ≤ Z2) := ⟨_, rfl⟩
                  rw [← hf] at hng
                  have hf2 := hf.symm
                  have q2 : (f == f) = true := by simp
                  have q3 : ((Z2 : Int) == Z2) = true := by simp
                  have q4 : ((laidB t x 8).length : Int) = t.size + 8 := by rw [laid_length]; rfl
                  clear hf
                  go_wp2_with fail
                  refine (len_calls p5 _ _ _ _).mono ?_; rintro e wb ⟨rfl, bb⟩
                  go_wp2_with fail
                  go_ret
                  have hbw := Sa.below (Nat.le_refl _) (fun k hk => by decide)
                  exact ⟨rfl, hbw.trans (bb.mono hbw.size)⟩

end Go.Proofs.Ytajaonnpekdklaa.Vw
