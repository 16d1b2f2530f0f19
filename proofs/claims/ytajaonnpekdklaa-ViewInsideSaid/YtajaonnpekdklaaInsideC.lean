import Derived.Test.YtajaonnpekdklaaInsideB
set_option linter.unusedVariables false
set_option maxRecDepth 100000
namespace Go.Proofs.Ytajaonnpekdklaa.Vw
open Go.ChangeShapes Go.WideShapes Go.ChangeAt Go.RowKit Mem

theorem Rd.recap {L : Nat → Nat} {c : Nat} {w : World} {q : Option Addr} {n cap : Nat} {xs : List Value} {size : Nat} (h : Rd L c w size (.slice q n cap) n xs) (k : Nat) (hk : n ≤ k) (hk2 : k ≤ maxLen) : Rd L c w size (.slice q n k) n xs := by
  obtain ⟨h1, q', cap', hv, hn, hmx, hc⟩ := h
  cases hv
  exact ⟨h1, _, _, rfl, hk, hk2, hc⟩

theorem loadE_zero {n : Nat} {a m : Int} (h : loadE n a m = 0) : ∃ x y : Nat, a = x ∧ m = y ∧ x + y ≤ n ∧ 0 < y ∧ y ≤ 8 := by
  unfold loadE at h
  by_cases hw : Ink.wideB m = true
  · rw [if_pos hw] at h
    by_cases hi : insideB a m n = true
    · obtain ⟨x, y, rfl, rfl, hxy⟩ := insideB_true hi
      simp [Ink.wideB] at hw
      exact ⟨x, y, rfl, rfl, hxy, by omega, by omega⟩
    · rw [if_neg hi] at h; cases h
  · rw [if_neg hw] at h; cases h

theorem loadE_of {n n2 : Nat} {x x2 y : Nat} (h : loadE n (x : Int) (y : Int) = 0) (h2 : x2 + y ≤ n2) : loadE n2 (x2 : Int) (y : Int) = 0 := by
  unfold loadE at *
  by_cases hw : Ink.wideB (y : Int) = true
  · rw [if_pos hw, if_pos (by simp [insideB]; omega)]
  · rw [if_neg hw] at h; cases h

set_option maxHeartbeats 1000000 in
theorem inside_good {L : Nat → Nat} {w : World} {q : Option Addr} {len cap : Nat} {bs : List UInt8} (hr : Rd L 0 w 1 (.slice q len cap) len (bs.map byt)) (hL : ∀ k, k < w.heap.size → L k = 0)
    (f n x y : Nat) (hfn : f + n ≤ len) (hxy : x + y ≤ n) (hy : 0 < y) (hE : loadE n x y = 0) :
    Calls Try.prog 6 #[.slice q len cap, .agg #[.int .i64 f, .int .i64 n, .int .i64 x, .int .i64 y]] w fun e w' => e = .returned (.bool true) ∧ Below w.heap.size w w' := by
  obtain ⟨_, _, hv, hn, hm⟩ := hr.shape
  cases hv
  unfold maxLen at hm
  have hbl : bs.length = len := by simpa using hr.1
  have hgl : (got bs f n).length = n := got_length bs (by omega)
  have hgl2 : (got bs (f + x) y).length = y := got_length bs (by omega)
  obtain ⟨X, hX⟩ : ∃ X : Nat, X = leV (got bs (f + x) y) := ⟨_, rfl⟩
  have hE2 : loadE bs.length ((f + x : Nat) : Int) y = 0 := loadE_of hE (by omega)
  have hE3 : loadE y ((0 : Nat) : Int) y = 0 := loadE_of hE (by omega)
  have hV1 : loadV (got bs f n) x y = X := by unfold loadV; rw [hgl, if_pos hE, hX, Int.toNat_natCast, Int.toNat_natCast, got_got bs hxy]
  have hV2 : loadV bs ((f + x : Nat) : Int) y = X := by unfold loadV; rw [if_pos hE2, hX, Int.toNat_natCast, Int.toNat_natCast]
  have hV3 : loadV (got bs (f + x) y) 0 y = X := by
    unfold loadV; rw [hgl2, if_pos (by exact hE3), hX, Int.toNat_natCast]
    have := got_got bs (f := f + x) (n := y) (x := 0) (y := y) (by omega)
    rw [Nat.add_zero] at this
    exact congrArg leV this
  have hT : loadT [] (got bs f n).length f x y = [((f : Int) + x, (f : Int) + x + y)] := by unfold loadT; rw [hgl, if_pos hE]; unfold tell; rw [if_pos (by simpa using hy)]; simp
  have hS1 : signedV (got bs f n) x y = signV X y := by unfold signedV; rw [hgl, if_pos hE, hV1]
  have hS2 : signedV bs ((f + x : Nat) : Int) y = signV X y := by unfold signedV; rw [if_pos hE2, hV2]
  have hE1 : loadE (got bs f n).length x y = 0 := by rw [hgl]; exact hE
  have hE4 : loadE (got bs (f + x) y).length 0 y = 0 := by rw [hgl2]; exact hE3
  have HGL := Lib.hid hgl
  have HGL2 := Lib.hid hgl2
  have HE1 := Lib.hid hE1
  have HE2 := Lib.hid hE2
  have HE4 := Lib.hid hE4
  have HV1 := Lib.hid hV1
  have HV2 := Lib.hid hV2
  have HV3 := Lib.hid hV3
  have HS1 := Lib.hid hS1
  have HS2 := Lib.hid hS2
  have HT := Lib.hid hT
  clear hE hE1 hE2 hE3 hE4 hV1 hV2 hV3 hT hgl hgl2 hbl hS1 hS2 hX
  obtain ⟨wA, hA⟩ : ∃ wA : World, wA = (w.alloc (.cells #[.int .i64 f, .int .i64 n, .int .i64 x, .int .i64 y] 47)) := ⟨_, rfl⟩
  have bA : Below w.heap.size w wA := by rw [hA]; exact below_alloc w _
  have a0 : wA.cell? ⟨w.heap.size, 0, none⟩ = some (.int .i64 f) ∧ wA.cell? ⟨w.heap.size, 1, none⟩ = some (.int .i64 n) ∧ wA.cell? ⟨w.heap.size, 2, none⟩ = some (.int .i64 x) ∧ wA.cell? ⟨w.heap.size, 3, none⟩ = some (.int .i64 y) := by rw [hA]; simp
  obtain ⟨a0, a1, a2, a3⟩ := a0
  have HA := Lib.hid hA
  have BA := Lib.hid bA
  clear hA bA
  go_enter Try.func6, Try.ntmps6
  go_wp2_with fail
  rw [← HA.out]
  go_quiet (fail)
  go_wp2_with fail
  have stA : Step (fun _ => False) L w (ext L w.heap.size 9) (wA.drewN nq) := (Step.of_below BA.out (fun _ => False) 9).drewN nq
  refine (newwatch_calls (ext L w.heap.size 9) 1 (wA.drewN nq)).mono ?_; rintro e w1 ⟨rfl, s1, wt1⟩
  have S1 : St L w q len cap bs wA.heap.size [] [] _ w1 := ⟨wt1, (hr.step stA (by simp)).step s1 (by simp), (stA.trans s1).mono (by simp), fun x hx => by cases hx⟩
  clear s1 wt1 stA
  generalize ext (ext L w.heap.size 9) (wA.drewN nq).heap.size 1 = L1 at *
  go_wp2_with fail
  refine (of_calls q len cap hn hm).mono ?_; rintro e w2 ⟨rfl, b2⟩
  obtain ⟨L2, S2⟩ := S1.below' b2
  clear S1 b2
  go_wp2_with fail
  refine (watched_calls q len len 0 none (some ⟨wA.heap.size, 0, none⟩)).mono ?_; rintro e w3 ⟨rfl, b3⟩
  obtain ⟨L3, S3⟩ := S2.below' b3
  clear S2 b3
  go_wp2_with fail
  obtain ⟨L4, S4⟩ := S3.var #[.slice q len len, .int .i64 0, .pointer (some ⟨wA.heap.size, 0, none⟩)] 51 [(⟨w3.heap.size, 0, none⟩, .slice q len len), (⟨w3.heap.size, 1, none⟩, .int .i64 0), (⟨w3.heap.size, 2, none⟩, .pointer (some ⟨wA.heap.size, 0, none⟩))] (by simp)
  clear S3
  refine (len_calls q len len _ _).mono ?_; rintro e w4 ⟨rfl, b4⟩
  obtain ⟨L5, S5⟩ := S4.below' b4
  clear S4 b4
  generalize w3.heap.size = vb at *
  have k0 := (S5.kept (⟨vb, 0, none⟩, .slice q len len) (by simp)).1
  have k1 := (S5.kept (⟨vb, 1, none⟩, .int .i64 0) (by simp)).1
  have k2 := (S5.kept (⟨vb, 2, none⟩, .pointer (some ⟨wA.heap.size, 0, none⟩)) (by simp)).1
  have hne : ((len : Int) != len) = false := by simp
  go_wp2_with fail
  refine (part_yes q len len 0 _ f n (by omega) hfn (Nat.le_refl _)).mono ?_; rintro e w5 ⟨rfl, b5⟩
  obtain ⟨L6, S6⟩ := S5.below' b5
  clear S5 b5 k0 k1 k2
  rw [show wrap64 (0 + (f : Int)) = f from by rw [IntWalk.wrap64_in _ (by omega)]; omega]
  go_wp2_with fail
  obtain ⟨L7, S7⟩ := S6.var #[.slice (cutAt q f n) n n, .int .i64 f, .pointer (some ⟨wA.heap.size, 0, none⟩)] 51 [(⟨w5.heap.size, 0, none⟩, .slice (cutAt q f n) n n), (⟨w5.heap.size, 1, none⟩, .int .i64 f), (⟨w5.heap.size, 2, none⟩, .pointer (some ⟨wA.heap.size, 0, none⟩))] (by simp)
  clear S6
  refine (reads_calls L7 1 9 _ S7.watch (by simp)).mono ?_; rintro e w6 ⟨v6, rfl, s6, o6⟩
  have S8 := S7.fresh s6
  obtain ⟨p6, cap6, rfl, _⟩ := ownsRow_shape o6.1
  clear S7 s6 o6
  generalize ext L7 _ 9 = L8 at *
  generalize w5.heap.size = pb at *
  have k0 := (S8.kept (⟨pb, 0, none⟩, .slice (cutAt q f n) n n) (by simp)).1
  have k1 := (S8.kept (⟨pb, 1, none⟩, .int .i64 f) (by simp)).1
  have k2 := (S8.kept (⟨pb, 2, none⟩, .pointer (some ⟨wA.heap.size, 0, none⟩)) (by simp)).1
  go_wp2_with fail
  have hr8 : Rd L8 0 w6 1 (.slice (cutAt q f n) n n) n ((got bs f n).map byt) := Rd.cut S8.rd hfn n (Nat.le_refl _) (by unfold maxLen; omega)
  refine (load_calls (u := some wA.heap.size) (c := 1) (by decide) (fun wb hu => by cases hu; exact S8.watch) (by simp) hr8 f (by omega) (by omega) x y (by omega)).mono ?_; rintro e w7 ⟨rfl, rd7⟩
  obtain ⟨L9, S9⟩ := S8.told rd7
  rw [HT.out] at S9
  rw [HV1.out, HE1.out]
  clear rd7 hr8 S8 k0 k1 k2
  go_wp2_with fail
  refine (reads_calls L9 1 9 _ S9.watch (by simp)).mono ?_; rintro e w8 ⟨v8, rfl, s8, o8⟩
  have S10 := S9.fresh s8
  clear S9 s8
  generalize ext L9 _ 9 = L10 at *
  obtain ⟨g8, cp8, rfl, hL8, r0, r1, _⟩ := Own.set o8 (j := 0) (by simp [rdCells]) (.int .i64 0)
  obtain ⟨g8', cp8', hv8, _, r1, _⟩ := Own.set o8 (j := 1) (by simp [rdCells]) (.int .i64 0)
  cases hv8
  have r0' : w8.cell? ⟨g8, 0, none⟩ = some (.int .i64 ((f : Int) + x)) := r0
  have r1' : w8.cell? ⟨g8, 1, none⟩ = some (.int .i64 ((f : Int) + x + y)) := r1
  clear r0 r1 o8
  have k0 := (S10.kept (⟨pb, 0, none⟩, .slice (cutAt q f n) n n) (by simp)).1
  have k1 := (S10.kept (⟨pb, 1, none⟩, .int .i64 f) (by simp)).1
  have k2 := (S10.kept (⟨pb, 2, none⟩, .pointer (some ⟨wA.heap.size, 0, none⟩)) (by simp)).1
  go_wp2_with fail
  refine (len_calls (cutAt q f n) n n _ _).mono ?_; rintro e w9 ⟨rfl, b9⟩
  obtain ⟨L11, S11⟩ := S10.below' b9
  have r0 := (b9.cell (p := ⟨g8, 0, none⟩) (World.block_lt_of_cell? w8 _ r0')).trans r0'
  have r1 := (b9.cell (p := ⟨g8, 1, none⟩) (World.block_lt_of_cell? w8 _ r1')).trans r1'
  clear S10 b9 r0' r1' k0 k1 k2
  have c1 : ((n : Int) != n) = false := by simp
  have c2 : ((f : Int) + x != (f : Int) + x) = false := by simp
  have c3 : ((f : Int) + x + y != (f : Int) + x + y) = false := by simp
  have c4 : decide ((f : Int) + x < f) = false := by simp; omega
  have c5 : decide ((f : Int) + n < (f : Int) + x + y) = false := by simp; omega
  go_wp2_with fail
  refine (of_calls q len cap hn hm).mono ?_; rintro e w10 ⟨rfl, b10⟩
  obtain ⟨L12, S12⟩ := S11.below' b10
  clear S11 b10 r0 r1 c2 c3 c4 c5
  go_wp2_with fail
  have r12 : Rd L12 0 w10 1 (.slice q len len) len (bs.map byt) := Rd.recap S12.rd len (Nat.le_refl _) (by unfold maxLen; omega)
  refine (load_calls (L := L12) (c0 := 0) (u := none) (c := 5) (l := []) (by decide) (fun wb hu => by cases hu) (by simp) r12 0 (by omega) (by omega) ((f : Int) + x) y (by omega)).mono ?_; rintro e w11 ⟨rfl, rd11⟩
  obtain ⟨L13, S13⟩ := S12.quiet rd11
  rw [show (f : Int) + x = ((f + x : Nat) : Int) from by omega, HV2.out, HE2.out]
  clear S12 rd11 r12
  have k0 := (S13.kept (⟨pb, 0, none⟩, .slice (cutAt q f n) n n) (by simp)).1
  have k1 := (S13.kept (⟨pb, 1, none⟩, .int .i64 f) (by simp)).1
  have k2 := (S13.kept (⟨pb, 2, none⟩, .pointer (some ⟨wA.heap.size, 0, none⟩)) (by simp)).1
  go_wp2_with fail
  have r13 : Rd L13 0 w11 1 (.slice (cutAt q f n) n n) n ((got bs f n).map byt) := Rd.cut S13.rd hfn n (Nat.le_refl _) (by unfold maxLen; omega)
  refine (signed_calls (u := some wA.heap.size) (c := 1) (by decide) (fun wb hu => by cases hu; exact S13.watch) (by simp) r13 f (by omega) (by omega) x y (by omega)).mono ?_; rintro e w12 ⟨rfl, rd12⟩
  obtain ⟨L14, S14⟩ := S13.told rd12
  rw [HS1.out, HE1.out]
  clear S13 rd12 r13 k0 k1 k2
  go_wp2_with fail
  refine (of_calls q len cap hn hm).mono ?_; rintro e w13 ⟨rfl, b13⟩
  obtain ⟨L15, S15⟩ := S14.below' b13
  clear b13
  go_wp2_with fail
  have r15 : Rd L15 0 w13 1 (.slice q len len) len (bs.map byt) := Rd.recap S15.rd len (Nat.le_refl _) (by unfold maxLen; omega)
  refine (signed_calls (L := L15) (c0 := 0) (u := none) (c := 5) (l := []) (by decide) (fun wb hu => by cases hu) (by simp) r15 0 (by omega) (by omega) ((f : Int) + x) y (by omega)).mono ?_; rintro e w14 ⟨rfl, rd14⟩
  obtain ⟨L16, S16⟩ := S15.quiet rd14
  rw [show (f : Int) + x = ((f + x : Nat) : Int) from by omega, HS2.out, HE2.out]
  clear S14 S15 rd14 r15
  have k0 := (S16.kept (⟨pb, 0, none⟩, .slice (cutAt q f n) n n) (by simp)).1
  have k1 := (S16.kept (⟨pb, 1, none⟩, .int .i64 f) (by simp)).1
  have k2 := (S16.kept (⟨pb, 2, none⟩, .pointer (some ⟨wA.heap.size, 0, none⟩)) (by simp)).1
  go_wp2_with fail
  refine (part_yes (cutAt q f n) n n f _ x y (by omega) hxy (Nat.le_refl _)).mono ?_; rintro e w15 ⟨rfl, b15⟩
  obtain ⟨L17, S17⟩ := S16.below' b15
  clear S16 b15 k0 k1 k2
  rw [show wrap64 ((f : Int) + (x : Int)) = f + x from by rw [IntWalk.wrap64_in _ (by omega)]]
  go_wp2_with fail
  obtain ⟨L18, S18⟩ := S17.var #[.slice (cutAt (cutAt q f n) x y) y y, .int .i64 ((f : Int) + x), .pointer (some ⟨wA.heap.size, 0, none⟩)] 51 [] (by simp)
  clear S17
  have r18 := Rd.cut (Rd.cut S18.rd hfn n (Nat.le_refl _) (by unfold maxLen; omega)) hxy y (Nat.le_refl _) (by unfold maxLen; omega)
  rw [show List.take y (List.drop x (List.take n (List.drop f bs))) = got (bs) (f + x) y from got_got bs hxy] at r18
  refine (load_calls (u := some wA.heap.size) (c := 1) (by decide) (fun wb hu => by cases hu; exact S18.watch) (by unfold loadT tell; (repeat split) <;> simp) r18 ((f : Int) + x) (by omega) (by omega) 0 y (by omega)).mono ?_; rintro e w16 ⟨rfl, rd16⟩
  obtain ⟨L19, S19⟩ := S18.told rd16
  rw [HV3.out, HE4.out]
  clear S18 rd16 r18
  have d1 : (X == X) = true := by simp
  have d2 : (signV X y == signV X y) = true := by simp
  go_wp2_with fail
  refine (newwatch_calls L19 6 w16).mono ?_; rintro e w17 ⟨rfl, s17, wt17⟩
  have S20 := S19.fresh s17
  clear S19 s17
  go_wp2_with fail
  refine (reads_calls _ 6 9 _ wt17 (by simp)).mono ?_; rintro e w18 ⟨v18, rfl, s18, o18⟩
  have S21 := S20.fresh s18
  obtain ⟨p18, cap18, rfl, _⟩ := ownsRow_shape o18.1
  clear S20 s18 o18
  go_wp2_with fail
  go_ret
  exact ⟨rfl, S21.step.below (Nat.le_refl _) (fun k hk => by rw [hL k hk]; omega)⟩

end Go.Proofs.Ytajaonnpekdklaa.Vw
