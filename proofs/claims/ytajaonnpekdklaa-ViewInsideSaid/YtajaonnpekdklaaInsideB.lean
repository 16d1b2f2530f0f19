import Derived.Test.YtajaonnpekdklaaInsideA
set_option linter.unusedVariables false
set_option maxRecDepth 100000
namespace Go.Proofs.Ytajaonnpekdklaa.Vw
open Go.ChangeShapes Go.WideShapes Go.ChangeAt Go.RowKit Mem

theorem got_got (bs : List UInt8) {f n x y : Nat} (h : x + y ≤ n) : got (got bs f n) x y = got bs (f + x) y := by
  unfold got
  rw [List.drop_take, List.take_take, List.drop_drop, Nat.min_eq_left (by omega)]

theorem got_length (bs : List UInt8) {f n : Nat} (h : f + n ≤ bs.length) : (got bs f n).length = n := by
  unfold got; simp; omega

theorem inside_bad {L : Nat → Nat} {w : World} {q : Option Addr} {len cap : Nat} {bs : List UInt8} (hr : Rd L 0 w 1 (.slice q len cap) len (bs.map byt)) (hL : ∀ k, k < w.heap.size → L k = 0)
    (f n : Nat) (a m : Int) (hfn : f + n ≤ len) (ha : a ≤ 9223372036854775807) (hE : loadE n a m ≠ 0) :
    Calls Try.prog 6 #[.slice q len cap, .agg #[.int .i64 f, .int .i64 n, .int .i64 a, .int .i64 m]] w fun e w' => e = .returned (.bool true) ∧ Below w.heap.size w w' := by
  obtain ⟨_, _, hv, hn, hm⟩ := hr.shape
  cases hv
  unfold maxLen at hm
  have hbl : bs.length = len := by simpa using hr.1
  have hgl : (got bs f n).length = n := got_length bs (by omega)
  have hV : loadV (got bs f n) a m = 0 := by unfold loadV; rw [hgl, if_neg hE]
  have hT : loadT [] (got bs f n).length f a m = [] := by unfold loadT; rw [hgl, if_neg hE]
  have hEb : (loadE n a m != 0) = true := by simpa using hE
  have HGL := Lib.hid hgl
  have HV := Lib.hid hV
  have HT := Lib.hid hT
  clear hE hV hT hgl hbl
  obtain ⟨wA, hA⟩ : ∃ wA : World, wA = (w.alloc (.cells #[.int .i64 f, .int .i64 n, .int .i64 a, .int .i64 m] 47)) := ⟨_, rfl⟩
  have bA : Below w.heap.size w wA := by rw [hA]; exact below_alloc w _
  have a0 : wA.cell? ⟨w.heap.size, 0, none⟩ = some (.int .i64 f) ∧ wA.cell? ⟨w.heap.size, 1, none⟩ = some (.int .i64 n) ∧ wA.cell? ⟨w.heap.size, 2, none⟩ = some (.int .i64 a) ∧ wA.cell? ⟨w.heap.size, 3, none⟩ = some (.int .i64 m) := by rw [hA]; simp
  obtain ⟨a0, a1, a2, a3⟩ := a0
  have HA := Lib.hid hA
  have BA := Lib.hid bA
  clear hA bA
  go_enter Try.func6, Try.ntmps6
  go_wp2_with fail
  rw [← HA.out]
  go_quiet (fail)
  go_wp2_with fail
  have stA : Step (fun _ => False) L w (ext L w.heap.size 9) (wA.drewN nq) := (Step.of_below BA.out (fun _ => False) 9).drewN nq
  refine (newwatch_calls (ext L w.heap.size 9) 1 (wA.drewN nq)).mono ?_; rintro e w1 ⟨rfl, s1, wt1⟩
  have S1 : St L w q len cap bs wA.heap.size [] [] _ w1 := ⟨wt1, (hr.step stA (by simp)).step s1 (by simp), (stA.trans s1).mono (by simp), fun x hx => by cases hx⟩
  clear s1 wt1 stA
  generalize ext (ext L w.heap.size 9) (wA.drewN nq).heap.size 1 = L1 at *
  go_wp2_with fail
  refine (of_calls q len cap hn hm).mono ?_; rintro e w2 ⟨rfl, b2⟩
  obtain ⟨L2, S2⟩ := S1.below' b2
  clear S1 b2
  go_wp2_with fail
  refine (watched_calls q len len 0 none (some ⟨wA.heap.size, 0, none⟩)).mono ?_; rintro e w3 ⟨rfl, b3⟩
  obtain ⟨L3, S3⟩ := S2.below' b3
  clear S2 b3
  go_wp2_with fail
  obtain ⟨L4, S4⟩ := S3.var #[.slice q len len, .int .i64 0, .pointer (some ⟨wA.heap.size, 0, none⟩)] 51 [(⟨w3.heap.size, 0, none⟩, .slice q len len), (⟨w3.heap.size, 1, none⟩, .int .i64 0), (⟨w3.heap.size, 2, none⟩, .pointer (some ⟨wA.heap.size, 0, none⟩))] (by simp)
  clear S3
  refine (len_calls q len len _ _).mono ?_; rintro e w4 ⟨rfl, b4⟩
  obtain ⟨L5, S5⟩ := S4.below' b4
  clear S4 b4
  generalize w3.heap.size = vb at *
  have k0 := (S5.kept (⟨vb, 0, none⟩, .slice q len len) (by simp)).1
  have k1 := (S5.kept (⟨vb, 1, none⟩, .int .i64 0) (by simp)).1
  have k2 := (S5.kept (⟨vb, 2, none⟩, .pointer (some ⟨wA.heap.size, 0, none⟩)) (by simp)).1
  have hne : ((len : Int) != len) = false := by simp
  go_wp2_with fail
  refine (part_yes q len len 0 _ f n (by omega) hfn (Nat.le_refl _)).mono ?_; rintro e w5 ⟨rfl, b5⟩
  obtain ⟨L6, S6⟩ := S5.below' b5
  clear S5 b5 k0 k1 k2
  rw [show wrap64 (0 + (f : Int)) = f from by rw [IntWalk.wrap64_in _ (by omega)]; omega]
  go_wp2_with fail
  obtain ⟨L7, S7⟩ := S6.var #[.slice (cutAt q f n) n n, .int .i64 f, .pointer (some ⟨wA.heap.size, 0, none⟩)] 51 [(⟨w5.heap.size, 0, none⟩, .slice (cutAt q f n) n n), (⟨w5.heap.size, 1, none⟩, .int .i64 f), (⟨w5.heap.size, 2, none⟩, .pointer (some ⟨wA.heap.size, 0, none⟩))] (by simp)
  clear S6
  refine (reads_calls L7 1 9 _ S7.watch (by simp)).mono ?_; rintro e w6 ⟨v6, rfl, s6, o6⟩
  have S8 := S7.fresh s6
  obtain ⟨p6, cap6, rfl, _⟩ := ownsRow_shape o6.1
  clear S7 s6 o6
  generalize ext L7 _ 9 = L8 at *
  generalize w5.heap.size = pb at *
  have k0 := (S8.kept (⟨pb, 0, none⟩, .slice (cutAt q f n) n n) (by simp)).1
  have k1 := (S8.kept (⟨pb, 1, none⟩, .int .i64 f) (by simp)).1
  have k2 := (S8.kept (⟨pb, 2, none⟩, .pointer (some ⟨wA.heap.size, 0, none⟩)) (by simp)).1
  go_wp2_with fail
  have hr8 : Rd L8 0 w6 1 (.slice (cutAt q f n) n n) n ((got bs f n).map byt) := Rd.cut S8.rd hfn n (Nat.le_refl _) (by unfold maxLen; omega)
  refine (load_calls (u := some wA.heap.size) (c := 1) (by decide) (fun wb hu => by cases hu; exact S8.watch) (by simp) hr8 f (by omega) (by omega) a m ha).mono ?_; rintro e w7 ⟨rfl, rd7⟩
  obtain ⟨L9, S9⟩ := S8.told rd7
  rw [HT.out] at S9
  rw [HV.out, HGL.out]
  clear rd7 hr8 S8 k0 k1 k2
  go_wp2_with fail
  refine (reads_calls L9 1 9 _ S9.watch (by simp)).mono ?_; rintro e w8 ⟨v8, rfl, s8, o8⟩
  have S10 := S9.fresh s8
  obtain ⟨p8, cap8, rfl, _⟩ := ownsRow_shape o8.1
  clear S9 s8 o8
  go_wp2_with fail
  go_ret
  exact ⟨rfl, S10.step.below (Nat.le_refl _) (fun k hk => by rw [hL k hk]; omega)⟩

end Go.Proofs.Ytajaonnpekdklaa.Vw
