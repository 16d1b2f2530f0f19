import Derived.Test.YtajaonnpekdklaaVrL
set_option linter.unusedVariables false
set_option maxRecDepth 100000
/-! The document's Numbers (printed by wip/tools/vrm.py). -/
namespace Go.Proofs.Ytajaonnpekdklaa.Vr
open Go.ChangeShapes Go.WideShapes Go.ChangeAt Go.RowKit Mem Vw

theorem loadE_in {bs : List UInt8} {x W : Nat} (h : x + W ≤ bs.length) (hw : Ink.wideB (W : Int) = true) : loadE bs.length (x : Int) (W : Int) = 0 := by
  rw [loadE, if_pos hw, if_pos (by simp [insideB]; omega)]
theorem loadV_in {bs : List UInt8} {x W : Nat} (h : x + W ≤ bs.length) (hw : Ink.wideB (W : Int) = true) : loadV bs (x : Int) (W : Int) = leV (got bs x W) := by
  rw [loadV, if_pos (loadE_in h hw)]; rfl

theorem rnumbers1_no {w : World} (q : Option Addr) (n cap : Nat) (p a m : Int) (hn : n ≤ 9223372036854775807) (hb : numB n a m 1 = false) (ha : -9223372036854775808 ≤ a) (ha2 : a ≤ 9223372036854775807) (hm : -9223372036854775808 ≤ m) :
    Calls Try.prog 66 #[.agg #[.slice q n cap, .int .i64 p], .int .i64 a, .int .i64 m, .int .i64 1] w fun e w' => e = .returned (.tuple #[.slice none 0 0, .int .i64 2]) ∧ Below w.heap.size w w' := by
  have hbb := below_alloc w (.cells #[.slice q n cap, .int .i64 p] 106)
  by_cases q2 : m < 0
  · go_enter Try.func66, Try.ntmps66
    go_wp2_with fail
    go_ret2
    exact ⟨rfl, hbb⟩
  · by_cases q3 : (n : Int) / 1 < m
    · go_enter Try.func66, Try.ntmps66
      go_wp2_with fail
      go_ret2
      exact ⟨rfl, hbb⟩
    · have hi : insideB a (m * 1) n = false := by
        cases hx : insideB a (m * 1) n with
        | false => rfl
        | true => simp [insideB] at hx; simp [numB] at hb; omega
      rw [Int.mul_one] at hi
      have HI := Lib.hid hi
      have hmb : m * 1 ≤ 9223372036854775807 := by omega
      clear hi hb
      go_enter Try.func66, Try.ntmps66
      go_wp2_with fail
      refine (rinside_calls n a _ (by omega) ha2).mono ?_; rintro e w1 ⟨rfl, rfl⟩
      rw [HI.out]
      go_wp2_with fail
      go_ret2
      exact ⟨rfl, hbb⟩

set_option maxHeartbeats 400000 in
theorem rnumbers1_yes {L : Nat → Nat} {c c0 : Nat} (hcc : c0 ≠ c) (hc : 0 ≠ c) {w : World} {q : Option Addr} {n cap : Nat} {bs : List UInt8} (hr : Rd L c0 w 1 (.slice q n cap) n (bs.map byt)) (p : Int) (x y : Nat) (hxy : x + y * 1 ≤ n) (hn : n ≤ 1000000000) :
    Calls Try.prog 66 #[.agg #[.slice q n cap, .int .i64 p], .int .i64 (x : Int), .int .i64 (y : Int), .int .i64 1] w fun r w' => ∃ v', r = .returned (.tuple #[v', .int .i64 0]) ∧ ∃ L', Step (· = c) L w L' w' ∧ Own L' c w' 34 1 v' y ((nums bs x 1 y).map (numVal .u64)) := by
  have hbl : bs.length = n := by simpa using hr.1
  obtain ⟨wB, hwB⟩ : ∃ wB, wB = w.alloc (Obj.cells #[.slice q n cap, .int .i64 p] 106) := ⟨_, rfl⟩
  have hbb : Below w.heap.size w wB := by rw [hwB]; exact below_alloc w _
  have st1 := Step.of_below (L := L) hbb (fun _ => False) 0
  have hr1 := hr.step st1 (by simp)
  have b0 : wB.cell? ⟨w.heap.size, 0, none⟩ = some (.slice q n cap) := by rw [hwB]; simp
  have b1 : wB.cell? ⟨w.heap.size, 1, none⟩ = some (.int .i64 p) := by rw [hwB]; simp
  have hi : insideB (x : Int) ((y : Int) * 1) n = true := by simp [insideB]; omega
  rw [Int.mul_one] at hi
  have hq : (y : Int) ≤ (n : Int) / 1 := by omega
  have hyb : (y : Int) * 1 ≤ 1000000000 := by omega
  have hyb2 : y ≤ 1000000000 := by omega
  have hxb : x ≤ 1000000000 := by omega
  have HI := Lib.hid hi
  have HBL := Lib.hid hbl
  have HW := Lib.hid hwB
  have HXY := Lib.hid hxy
  have hcB : Cells (ext L w.heap.size 0) wB w.heap.size 0 [.slice q n cap, .int .i64 p] := ⟨World.block_lt_of_cell? _ _ b0, ext_new (Nat.le_refl _), fun j v hj => by match j, hj with | 0, hj => cases hj; exact b0 | 1, hj => cases hj; exact b1⟩
  generalize ext L w.heap.size 0 = L1 at *
  clear hbb hr hwB hbl hi hxy b0 b1
  go_enter Try.func66, Try.ntmps66
  go_wp2_with fail
  rw [← HW.out]
  refine (rinside_calls n x _ (by omega) (by omega)).mono ?_; rintro e w1 ⟨rfl, rfl⟩
  rw [HI.out]
  go_wp2_with fail
  go_loopw [11, 12, 13, 14] (fun vl i _ _ wr => ∃ (k : Nat) (LW : Nat → Nat), k ≤ y ∧ i = .int .i64 (k : Int) ∧ Own LW c wr 34 1 vl k ((nums bs x 1 k).map (numVal .u64)) ∧ Cells LW wr w.heap.size 0 [.slice q n cap, .int .i64 p] ∧
    Rd LW c0 wr 1 (.slice q n cap) n (bs.map byt) ∧ Step (· = c) L w LW wr) (fun _ i _ _ _ => y - (intOf i).toNat)
  case atStart => exact ⟨0, L1, by omega, rfl, Own.nil _ _ _ _ _, hcB, hr1, st1.mono (fun _ h => h.elim)⟩
  case round =>
    obtain ⟨k, LW, hk, rfl, owW, hcW, hrW, SW⟩ := hrel
    obtain ⟨p3, cap3, hv3, _⟩ := ownsRow_shape owW.1
    subst hv3
    have b0 : wr.cell? ⟨w.heap.size, 0, none⟩ = some (.slice q n cap) := hcW.2.2 0 _ rfl
    have b1 : wr.cell? ⟨w.heap.size, 1, none⟩ = some (.int .i64 p) := hcW.2.2 1 _ rfl
    have HSW := Lib.hid SW
    clear SW hcB hr1 st1
    by_cases hlt : k < y
    · have hxk : x + k * 1 + 1 ≤ bs.length := by have := HXY.out; rw [HBL.out]; omega
      have hV := loadV_in (bs := bs) (x := x + k * 1) (W := 1) hxk rfl
      have hE := loadE_in (bs := bs) (x := x + k * 1) (W := 1) hxk rfl
      rw [show ((x + k * 1 : Nat) : Int) = (x : Int) + (k : Int) by omega, show ((1 : Nat) : Int) = 1 from rfl] at hV hE
      have hns := nums_succ bs x 1 k
      generalize leV (got bs (x + k * 1) 1) = V at *
      have HV := Lib.hid hV
      have HE := Lib.hid hE
      have HNS := Lib.hid hns
      have hkb : (k : Int) * 1 ≤ 1000000000 := by omega
      clear hV hE hns hxk
      go_wp2_with fail
      refine (rload_calls hrW p _ _ (by omega)).mono ?_; rintro r wD ⟨rfl, bD⟩
      rw [HV.out, HE.out]
      have stD := Step.of_below (L := LW) bD (fun _ => False) 0
      have owD := owW.step stD (fun x => x)
      have hcD := hcW.step stD (fun x => x)
      have hrD := hrW.step stD (fun x => x)
      have SD := HSW.out.trans (stD.mono (fun _ h => h.elim))
      generalize ext LW wr.heap.size 0 = LD at *
      clear stD bD owW hcW hrW b0 b1
      go_wp2_with (at_builtin; refine wpList_append rfl (.tmp 52) (.tmp 54) 121 121 rfl 34 Try.underlying121 infoNum3 rfl (by decide) _ k _ rfl (owD.1.alloc _) _ 1 [.int .u64 (V : Int)] rfl (Src.fresh wD Try.underlying121 1 1 [.int .u64 (V : Int)] rfl (by simp [Value.oneCell'])) (by unfold maxLen; omega) (by omega) ?_)
      intro v5 w5 hown5 hg5 hblk5 _
      obtain ⟨L5, s5, ow5, st5⟩ := Own.grown SD rfl owD (below_alloc _ _) hown5 hg5 (by simpa using hblk5)
      have hc5 := hcD.step st5 hc
      have hr5 := hrD.step st5 hcc
      have HS5 := Lib.hid s5
      clear hown5 hg5 hblk5 s5 st5 SD owD hcD hrD
      go_wp2_with fail
      go_roundw
      case rel => exact ⟨k + 1, L5, by omega, by go_num, by rw [HNS.out, List.map_append]; exact ow5, hc5, hr5, HS5.out⟩
      case measure => simp [intOf]; omega
    · obtain rfl : k = y := by omega
      go_wp2_with fail
      go_ret2
      exact ⟨_, rfl, LW, HSW.out, owW⟩

theorem rnumbers2_no {w : World} (q : Option Addr) (n cap : Nat) (p a m : Int) (hn : n ≤ 9223372036854775807) (hb : numB n a m 2 = false) (ha : -9223372036854775808 ≤ a) (ha2 : a ≤ 9223372036854775807) (hm : -9223372036854775808 ≤ m) :
    Calls Try.prog 66 #[.agg #[.slice q n cap, .int .i64 p], .int .i64 a, .int .i64 m, .int .i64 2] w fun e w' => e = .returned (.tuple #[.slice none 0 0, .int .i64 2]) ∧ Below w.heap.size w w' := by
  have hbb := below_alloc w (.cells #[.slice q n cap, .int .i64 p] 106)
  by_cases q2 : m < 0
  · go_enter Try.func66, Try.ntmps66
    go_wp2_with fail
    go_ret2
    exact ⟨rfl, hbb⟩
  · by_cases q3 : (n : Int) / 2 < m
    · go_enter Try.func66, Try.ntmps66
      go_wp2_with fail
      go_ret2
      exact ⟨rfl, hbb⟩
    · have hi : insideB a (m * 2) n = false := by
        cases hx : insideB a (m * 2) n with
        | false => rfl
        | true => simp [insideB] at hx; simp [numB] at hb; omega
      skip
      have HI := Lib.hid hi
      have hmb : m * 2 ≤ 9223372036854775807 := by omega
      clear hi hb
      go_enter Try.func66, Try.ntmps66
      go_wp2_with fail
      refine (rinside_calls n a _ (by omega) ha2).mono ?_; rintro e w1 ⟨rfl, rfl⟩
      rw [HI.out]
      go_wp2_with fail
      go_ret2
      exact ⟨rfl, hbb⟩

set_option maxHeartbeats 400000 in
theorem rnumbers2_yes {L : Nat → Nat} {c c0 : Nat} (hcc : c0 ≠ c) (hc : 0 ≠ c) {w : World} {q : Option Addr} {n cap : Nat} {bs : List UInt8} (hr : Rd L c0 w 1 (.slice q n cap) n (bs.map byt)) (p : Int) (x y : Nat) (hxy : x + y * 2 ≤ n) (hn : n ≤ 1000000000) :
    Calls Try.prog 66 #[.agg #[.slice q n cap, .int .i64 p], .int .i64 (x : Int), .int .i64 (y : Int), .int .i64 2] w fun r w' => ∃ v', r = .returned (.tuple #[v', .int .i64 0]) ∧ ∃ L', Step (· = c) L w L' w' ∧ Own L' c w' 34 1 v' y ((nums bs x 2 y).map (numVal .u64)) := by
  have hbl : bs.length = n := by simpa using hr.1
  obtain ⟨wB, hwB⟩ : ∃ wB, wB = w.alloc (Obj.cells #[.slice q n cap, .int .i64 p] 106) := ⟨_, rfl⟩
  have hbb : Below w.heap.size w wB := by rw [hwB]; exact below_alloc w _
  have st1 := Step.of_below (L := L) hbb (fun _ => False) 0
  have hr1 := hr.step st1 (by simp)
  have b0 : wB.cell? ⟨w.heap.size, 0, none⟩ = some (.slice q n cap) := by rw [hwB]; simp
  have b1 : wB.cell? ⟨w.heap.size, 1, none⟩ = some (.int .i64 p) := by rw [hwB]; simp
  have hi : insideB (x : Int) ((y : Int) * 2) n = true := by simp [insideB]; omega
  skip
  have hq : (y : Int) ≤ (n : Int) / 2 := by omega
  have hyb : (y : Int) * 2 ≤ 1000000000 := by omega
  have hyb2 : y ≤ 1000000000 := by omega
  have hxb : x ≤ 1000000000 := by omega
  have HI := Lib.hid hi
  have HBL := Lib.hid hbl
  have HW := Lib.hid hwB
  have HXY := Lib.hid hxy
  have hcB : Cells (ext L w.heap.size 0) wB w.heap.size 0 [.slice q n cap, .int .i64 p] := ⟨World.block_lt_of_cell? _ _ b0, ext_new (Nat.le_refl _), fun j v hj => by match j, hj with | 0, hj => cases hj; exact b0 | 1, hj => cases hj; exact b1⟩
  generalize ext L w.heap.size 0 = L1 at *
  clear hbb hr hwB hbl hi hxy b0 b1
  go_enter Try.func66, Try.ntmps66
  go_wp2_with fail
  rw [← HW.out]
  refine (rinside_calls n x _ (by omega) (by omega)).mono ?_; rintro e w1 ⟨rfl, rfl⟩
  rw [HI.out]
  go_wp2_with fail
  go_loopw [11, 12, 13, 14] (fun vl i _ _ wr => ∃ (k : Nat) (LW : Nat → Nat), k ≤ y ∧ i = .int .i64 (k : Int) ∧ Own LW c wr 34 1 vl k ((nums bs x 2 k).map (numVal .u64)) ∧ Cells LW wr w.heap.size 0 [.slice q n cap, .int .i64 p] ∧
    Rd LW c0 wr 1 (.slice q n cap) n (bs.map byt) ∧ Step (· = c) L w LW wr) (fun _ i _ _ _ => y - (intOf i).toNat)
  case atStart => exact ⟨0, L1, by omega, rfl, Own.nil _ _ _ _ _, hcB, hr1, st1.mono (fun _ h => h.elim)⟩
  case round =>
    obtain ⟨k, LW, hk, rfl, owW, hcW, hrW, SW⟩ := hrel
    obtain ⟨p3, cap3, hv3, _⟩ := ownsRow_shape owW.1
    subst hv3
    have b0 : wr.cell? ⟨w.heap.size, 0, none⟩ = some (.slice q n cap) := hcW.2.2 0 _ rfl
    have b1 : wr.cell? ⟨w.heap.size, 1, none⟩ = some (.int .i64 p) := hcW.2.2 1 _ rfl
    have HSW := Lib.hid SW
    clear SW hcB hr1 st1
    by_cases hlt : k < y
    · have hxk : x + k * 2 + 2 ≤ bs.length := by have := HXY.out; rw [HBL.out]; omega
      have hV := loadV_in (bs := bs) (x := x + k * 2) (W := 2) hxk rfl
      have hE := loadE_in (bs := bs) (x := x + k * 2) (W := 2) hxk rfl
      rw [show ((x + k * 2 : Nat) : Int) = (x : Int) + (k : Int) * 2 by omega, show ((2 : Nat) : Int) = 2 from rfl] at hV hE
      have hns := nums_succ bs x 2 k
      generalize leV (got bs (x + k * 2) 2) = V at *
      have HV := Lib.hid hV
      have HE := Lib.hid hE
      have HNS := Lib.hid hns
      have hkb : (k : Int) * 2 ≤ 1000000000 := by omega
      clear hV hE hns hxk
      go_wp2_with fail
      refine (rload_calls hrW p _ _ (by omega)).mono ?_; rintro r wD ⟨rfl, bD⟩
      rw [HV.out, HE.out]
      have stD := Step.of_below (L := LW) bD (fun _ => False) 0
      have owD := owW.step stD (fun x => x)
      have hcD := hcW.step stD (fun x => x)
      have hrD := hrW.step stD (fun x => x)
      have SD := HSW.out.trans (stD.mono (fun _ h => h.elim))
      generalize ext LW wr.heap.size 0 = LD at *
      clear stD bD owW hcW hrW b0 b1
      go_wp2_with (at_builtin; refine wpList_append rfl (.tmp 52) (.tmp 54) 121 121 rfl 34 Try.underlying121 infoNum3 rfl (by decide) _ k _ rfl (owD.1.alloc _) _ 1 [.int .u64 (V : Int)] rfl (Src.fresh wD Try.underlying121 1 1 [.int .u64 (V : Int)] rfl (by simp [Value.oneCell'])) (by unfold maxLen; omega) (by omega) ?_)
      intro v5 w5 hown5 hg5 hblk5 _
      obtain ⟨L5, s5, ow5, st5⟩ := Own.grown SD rfl owD (below_alloc _ _) hown5 hg5 (by simpa using hblk5)
      have hc5 := hcD.step st5 hc
      have hr5 := hrD.step st5 hcc
      have HS5 := Lib.hid s5
      clear hown5 hg5 hblk5 s5 st5 SD owD hcD hrD
      go_wp2_with fail
      go_roundw
      case rel => exact ⟨k + 1, L5, by omega, by go_num, by rw [HNS.out, List.map_append]; exact ow5, hc5, hr5, HS5.out⟩
      case measure => simp [intOf]; omega
    · obtain rfl : k = y := by omega
      go_wp2_with fail
      go_ret2
      exact ⟨_, rfl, LW, HSW.out, owW⟩

theorem rnumbers4_no {w : World} (q : Option Addr) (n cap : Nat) (p a m : Int) (hn : n ≤ 9223372036854775807) (hb : numB n a m 4 = false) (ha : -9223372036854775808 ≤ a) (ha2 : a ≤ 9223372036854775807) (hm : -9223372036854775808 ≤ m) :
    Calls Try.prog 66 #[.agg #[.slice q n cap, .int .i64 p], .int .i64 a, .int .i64 m, .int .i64 4] w fun e w' => e = .returned (.tuple #[.slice none 0 0, .int .i64 2]) ∧ Below w.heap.size w w' := by
  have hbb := below_alloc w (.cells #[.slice q n cap, .int .i64 p] 106)
  by_cases q2 : m < 0
  · go_enter Try.func66, Try.ntmps66
    go_wp2_with fail
    go_ret2
    exact ⟨rfl, hbb⟩
  · by_cases q3 : (n : Int) / 4 < m
    · go_enter Try.func66, Try.ntmps66
      go_wp2_with fail
      go_ret2
      exact ⟨rfl, hbb⟩
    · have hi : insideB a (m * 4) n = false := by
        cases hx : insideB a (m * 4) n with
        | false => rfl
        | true => simp [insideB] at hx; simp [numB] at hb; omega
      skip
      have HI := Lib.hid hi
      have hmb : m * 4 ≤ 9223372036854775807 := by omega
      clear hi hb
      go_enter Try.func66, Try.ntmps66
      go_wp2_with fail
      refine (rinside_calls n a _ (by omega) ha2).mono ?_; rintro e w1 ⟨rfl, rfl⟩
      rw [HI.out]
      go_wp2_with fail
      go_ret2
      exact ⟨rfl, hbb⟩

set_option maxHeartbeats 400000 in
theorem rnumbers4_yes {L : Nat → Nat} {c c0 : Nat} (hcc : c0 ≠ c) (hc : 0 ≠ c) {w : World} {q : Option Addr} {n cap : Nat} {bs : List UInt8} (hr : Rd L c0 w 1 (.slice q n cap) n (bs.map byt)) (p : Int) (x y : Nat) (hxy : x + y * 4 ≤ n) (hn : n ≤ 1000000000) :
    Calls Try.prog 66 #[.agg #[.slice q n cap, .int .i64 p], .int .i64 (x : Int), .int .i64 (y : Int), .int .i64 4] w fun r w' => ∃ v', r = .returned (.tuple #[v', .int .i64 0]) ∧ ∃ L', Step (· = c) L w L' w' ∧ Own L' c w' 34 1 v' y ((nums bs x 4 y).map (numVal .u64)) := by
  have hbl : bs.length = n := by simpa using hr.1
  obtain ⟨wB, hwB⟩ : ∃ wB, wB = w.alloc (Obj.cells #[.slice q n cap, .int .i64 p] 106) := ⟨_, rfl⟩
  have hbb : Below w.heap.size w wB := by rw [hwB]; exact below_alloc w _
  have st1 := Step.of_below (L := L) hbb (fun _ => False) 0
  have hr1 := hr.step st1 (by simp)
  have b0 : wB.cell? ⟨w.heap.size, 0, none⟩ = some (.slice q n cap) := by rw [hwB]; simp
  have b1 : wB.cell? ⟨w.heap.size, 1, none⟩ = some (.int .i64 p) := by rw [hwB]; simp
  have hi : insideB (x : Int) ((y : Int) * 4) n = true := by simp [insideB]; omega
  skip
  have hq : (y : Int) ≤ (n : Int) / 4 := by omega
  have hyb : (y : Int) * 4 ≤ 1000000000 := by omega
  have hyb2 : y ≤ 1000000000 := by omega
  have hxb : x ≤ 1000000000 := by omega
  have HI := Lib.hid hi
  have HBL := Lib.hid hbl
  have HW := Lib.hid hwB
  have HXY := Lib.hid hxy
  have hcB : Cells (ext L w.heap.size 0) wB w.heap.size 0 [.slice q n cap, .int .i64 p] := ⟨World.block_lt_of_cell? _ _ b0, ext_new (Nat.le_refl _), fun j v hj => by match j, hj with | 0, hj => cases hj; exact b0 | 1, hj => cases hj; exact b1⟩
  generalize ext L w.heap.size 0 = L1 at *
  clear hbb hr hwB hbl hi hxy b0 b1
  go_enter Try.func66, Try.ntmps66
  go_wp2_with fail
  rw [← HW.out]
  refine (rinside_calls n x _ (by omega) (by omega)).mono ?_; rintro e w1 ⟨rfl, rfl⟩
  rw [HI.out]
  go_wp2_with fail
  go_loopw [11, 12, 13, 14] (fun vl i _ _ wr => ∃ (k : Nat) (LW : Nat → Nat), k ≤ y ∧ i = .int .i64 (k : Int) ∧ Own LW c wr 34 1 vl k ((nums bs x 4 k).map (numVal .u64)) ∧ Cells LW wr w.heap.size 0 [.slice q n cap, .int .i64 p] ∧
    Rd LW c0 wr 1 (.slice q n cap) n (bs.map byt) ∧ Step (· = c) L w LW wr) (fun _ i _ _ _ => y - (intOf i).toNat)
  case atStart => exact ⟨0, L1, by omega, rfl, Own.nil _ _ _ _ _, hcB, hr1, st1.mono (fun _ h => h.elim)⟩
  case round =>
    obtain ⟨k, LW, hk, rfl, owW, hcW, hrW, SW⟩ := hrel
    obtain ⟨p3, cap3, hv3, _⟩ := ownsRow_shape owW.1
    subst hv3
    have b0 : wr.cell? ⟨w.heap.size, 0, none⟩ = some (.slice q n cap) := hcW.2.2 0 _ rfl
    have b1 : wr.cell? ⟨w.heap.size, 1, none⟩ = some (.int .i64 p) := hcW.2.2 1 _ rfl
    have HSW := Lib.hid SW
    clear SW hcB hr1 st1
    by_cases hlt : k < y
    · have hxk : x + k * 4 + 4 ≤ bs.length := by have := HXY.out; rw [HBL.out]; omega
      have hV := loadV_in (bs := bs) (x := x + k * 4) (W := 4) hxk rfl
      have hE := loadE_in (bs := bs) (x := x + k * 4) (W := 4) hxk rfl
      rw [show ((x + k * 4 : Nat) : Int) = (x : Int) + (k : Int) * 4 by omega, show ((4 : Nat) : Int) = 4 from rfl] at hV hE
      have hns := nums_succ bs x 4 k
      generalize leV (got bs (x + k * 4) 4) = V at *
      have HV := Lib.hid hV
      have HE := Lib.hid hE
      have HNS := Lib.hid hns
      have hkb : (k : Int) * 4 ≤ 1000000000 := by omega
      clear hV hE hns hxk
      go_wp2_with fail
      refine (rload_calls hrW p _ _ (by omega)).mono ?_; rintro r wD ⟨rfl, bD⟩
      rw [HV.out, HE.out]
      have stD := Step.of_below (L := LW) bD (fun _ => False) 0
      have owD := owW.step stD (fun x => x)
      have hcD := hcW.step stD (fun x => x)
      have hrD := hrW.step stD (fun x => x)
      have SD := HSW.out.trans (stD.mono (fun _ h => h.elim))
      generalize ext LW wr.heap.size 0 = LD at *
      clear stD bD owW hcW hrW b0 b1
      go_wp2_with (at_builtin; refine wpList_append rfl (.tmp 52) (.tmp 54) 121 121 rfl 34 Try.underlying121 infoNum3 rfl (by decide) _ k _ rfl (owD.1.alloc _) _ 1 [.int .u64 (V : Int)] rfl (Src.fresh wD Try.underlying121 1 1 [.int .u64 (V : Int)] rfl (by simp [Value.oneCell'])) (by unfold maxLen; omega) (by omega) ?_)
      intro v5 w5 hown5 hg5 hblk5 _
      obtain ⟨L5, s5, ow5, st5⟩ := Own.grown SD rfl owD (below_alloc _ _) hown5 hg5 (by simpa using hblk5)
      have hc5 := hcD.step st5 hc
      have hr5 := hrD.step st5 hcc
      have HS5 := Lib.hid s5
      clear hown5 hg5 hblk5 s5 st5 SD owD hcD hrD
      go_wp2_with fail
      go_roundw
      case rel => exact ⟨k + 1, L5, by omega, by go_num, by rw [HNS.out, List.map_append]; exact ow5, hc5, hr5, HS5.out⟩
      case measure => simp [intOf]; omega
    · obtain rfl : k = y := by omega
      go_wp2_with fail
      go_ret2
      exact ⟨_, rfl, LW, HSW.out, owW⟩

theorem rnumbers8_no {w : World} (q : Option Addr) (n cap : Nat) (p a m : Int) (hn : n ≤ 9223372036854775807) (hb : numB n a m 8 = false) (ha : -9223372036854775808 ≤ a) (ha2 : a ≤ 9223372036854775807) (hm : -9223372036854775808 ≤ m) :
    Calls Try.prog 66 #[.agg #[.slice q n cap, .int .i64 p], .int .i64 a, .int .i64 m, .int .i64 8] w fun e w' => e = .returned (.tuple #[.slice none 0 0, .int .i64 2]) ∧ Below w.heap.size w w' := by
  have hbb := below_alloc w (.cells #[.slice q n cap, .int .i64 p] 106)
  by_cases q2 : m < 0
  · go_enter Try.func66, Try.ntmps66
    go_wp2_with fail
    go_ret2
    exact ⟨rfl, hbb⟩
  · by_cases q3 : (n : Int) / 8 < m
    · go_enter Try.func66, Try.ntmps66
      go_wp2_with fail
      go_ret2
      exact ⟨rfl, hbb⟩
    · have hi : insideB a (m * 8) n = false := by
        cases hx : insideB a (m * 8) n with
        | false => rfl
        | true => simp [insideB] at hx; simp [numB] at hb; omega
      skip
      have HI := Lib.hid hi
      have hmb : m * 8 ≤ 9223372036854775807 := by omega
      clear hi hb
      go_enter Try.func66, Try.ntmps66
      go_wp2_with fail
      refine (rinside_calls n a _ (by omega) ha2).mono ?_; rintro e w1 ⟨rfl, rfl⟩
      rw [HI.out]
      go_wp2_with fail
      go_ret2
      exact ⟨rfl, hbb⟩

set_option maxHeartbeats 400000 in
theorem rnumbers8_yes {L : Nat → Nat} {c c0 : Nat} (hcc : c0 ≠ c) (hc : 0 ≠ c) {w : World} {q : Option Addr} {n cap : Nat} {bs : List UInt8} (hr : Rd L c0 w 1 (.slice q n cap) n (bs.map byt)) (p : Int) (x y : Nat) (hxy : x + y * 8 ≤ n) (hn : n ≤ 1000000000) :
    Calls Try.prog 66 #[.agg #[.slice q n cap, .int .i64 p], .int .i64 (x : Int), .int .i64 (y : Int), .int .i64 8] w fun r w' => ∃ v', r = .returned (.tuple #[v', .int .i64 0]) ∧ ∃ L', Step (· = c) L w L' w' ∧ Own L' c w' 34 1 v' y ((nums bs x 8 y).map (numVal .u64)) := by
  have hbl : bs.length = n := by simpa using hr.1
  obtain ⟨wB, hwB⟩ : ∃ wB, wB = w.alloc (Obj.cells #[.slice q n cap, .int .i64 p] 106) := ⟨_, rfl⟩
  have hbb : Below w.heap.size w wB := by rw [hwB]; exact below_alloc w _
  have st1 := Step.of_below (L := L) hbb (fun _ => False) 0
  have hr1 := hr.step st1 (by simp)
  have b0 : wB.cell? ⟨w.heap.size, 0, none⟩ = some (.slice q n cap) := by rw [hwB]; simp
  have b1 : wB.cell? ⟨w.heap.size, 1, none⟩ = some (.int .i64 p) := by rw [hwB]; simp
  have hi : insideB (x : Int) ((y : Int) * 8) n = true := by simp [insideB]; omega
  skip
  have hq : (y : Int) ≤ (n : Int) / 8 := by omega
  have hyb : (y : Int) * 8 ≤ 1000000000 := by omega
  have hyb2 : y ≤ 1000000000 := by omega
  have hxb : x ≤ 1000000000 := by omega
  have HI := Lib.hid hi
  have HBL := Lib.hid hbl
  have HW := Lib.hid hwB
  have HXY := Lib.hid hxy
  have hcB : Cells (ext L w.heap.size 0) wB w.heap.size 0 [.slice q n cap, .int .i64 p] := ⟨World.block_lt_of_cell? _ _ b0, ext_new (Nat.le_refl _), fun j v hj => by match j, hj with | 0, hj => cases hj; exact b0 | 1, hj => cases hj; exact b1⟩
  generalize ext L w.heap.size 0 = L1 at *
  clear hbb hr hwB hbl hi hxy b0 b1
  go_enter Try.func66, Try.ntmps66
  go_wp2_with fail
  rw [← HW.out]
  refine (rinside_calls n x _ (by omega) (by omega)).mono ?_; rintro e w1 ⟨rfl, rfl⟩
  rw [HI.out]
  go_wp2_with fail
  go_loopw [11, 12, 13, 14] (fun vl i _ _ wr => ∃ (k : Nat) (LW : Nat → Nat), k ≤ y ∧ i = .int .i64 (k : Int) ∧ Own LW c wr 34 1 vl k ((nums bs x 8 k).map (numVal .u64)) ∧ Cells LW wr w.heap.size 0 [.slice q n cap, .int .i64 p] ∧
    Rd LW c0 wr 1 (.slice q n cap) n (bs.map byt) ∧ Step (· = c) L w LW wr) (fun _ i _ _ _ => y - (intOf i).toNat)
  case atStart => exact ⟨0, L1, by omega, rfl, Own.nil _ _ _ _ _, hcB, hr1, st1.mono (fun _ h => h.elim)⟩
  case round =>
    obtain ⟨k, LW, hk, rfl, owW, hcW, hrW, SW⟩ := hrel
    obtain ⟨p3, cap3, hv3, _⟩ := ownsRow_shape owW.1
    subst hv3
    have b0 : wr.cell? ⟨w.heap.size, 0, none⟩ = some (.slice q n cap) := hcW.2.2 0 _ rfl
    have b1 : wr.cell? ⟨w.heap.size, 1, none⟩ = some (.int .i64 p) := hcW.2.2 1 _ rfl
    have HSW := Lib.hid SW
    clear SW hcB hr1 st1
    by_cases hlt : k < y
    · have hxk : x + k * 8 + 8 ≤ bs.length := by have := HXY.out; rw [HBL.out]; omega
      have hV := loadV_in (bs := bs) (x := x + k * 8) (W := 8) hxk rfl
      have hE := loadE_in (bs := bs) (x := x + k * 8) (W := 8) hxk rfl
      rw [show ((x + k * 8 : Nat) : Int) = (x : Int) + (k : Int) * 8 by omega, show ((8 : Nat) : Int) = 8 from rfl] at hV hE
      have hns := nums_succ bs x 8 k
      generalize leV (got bs (x + k * 8) 8) = V at *
      have HV := Lib.hid hV
      have HE := Lib.hid hE
      have HNS := Lib.hid hns
      have hkb : (k : Int) * 8 ≤ 1000000000 := by omega
      clear hV hE hns hxk
      go_wp2_with fail
      refine (rload_calls hrW p _ _ (by omega)).mono ?_; rintro r wD ⟨rfl, bD⟩
      rw [HV.out, HE.out]
      have stD := Step.of_below (L := LW) bD (fun _ => False) 0
      have owD := owW.step stD (fun x => x)
      have hcD := hcW.step stD (fun x => x)
      have hrD := hrW.step stD (fun x => x)
      have SD := HSW.out.trans (stD.mono (fun _ h => h.elim))
      generalize ext LW wr.heap.size 0 = LD at *
      clear stD bD owW hcW hrW b0 b1
      go_wp2_with (at_builtin; refine wpList_append rfl (.tmp 52) (.tmp 54) 121 121 rfl 34 Try.underlying121 infoNum3 rfl (by decide) _ k _ rfl (owD.1.alloc _) _ 1 [.int .u64 (V : Int)] rfl (Src.fresh wD Try.underlying121 1 1 [.int .u64 (V : Int)] rfl (by simp [Value.oneCell'])) (by unfold maxLen; omega) (by omega) ?_)
      intro v5 w5 hown5 hg5 hblk5 _
      obtain ⟨L5, s5, ow5, st5⟩ := Own.grown SD rfl owD (below_alloc _ _) hown5 hg5 (by simpa using hblk5)
      have hc5 := hcD.step st5 hc
      have hr5 := hrD.step st5 hcc
      have HS5 := Lib.hid s5
      clear hown5 hg5 hblk5 s5 st5 SD owD hcD hrD
      go_wp2_with fail
      go_roundw
      case rel => exact ⟨k + 1, L5, by omega, by go_num, by rw [HNS.out, List.map_append]; exact ow5, hc5, hr5, HS5.out⟩
      case measure => simp [intOf]; omega
    · obtain rfl : k = y := by omega
      go_wp2_with fail
      go_ret2
      exact ⟨_, rfl, LW, HSW.out, owW⟩

end Go.Proofs.Ytajaonnpekdklaa.Vr
