import Derived.Test.YtajaonnpekdklaaVrK
set_option linter.unusedVariables false
set_option maxRecDepth 100000
/-! Numbers of a view, good ones (printed by wip/tools/vrk.py). -/
namespace Go.Proofs.Ytajaonnpekdklaa.Vr
open Go.ChangeShapes Go.WideShapes Go.ChangeAt Go.RowKit Mem Vw

set_option maxHeartbeats 1000000 in
theorem numbers0_yes {L : Nat → Nat} {c cw c0 : Nat} (hcc : c0 ≠ cw) (hc : c ≠ cw) (hc0 : c0 ≠ c) {w : World} {u : Option Nat} {l : List (Int × Int)} (hW : WOpt L cw w u l) (hl : l.length ≤ 1000000000000) {q : Option Addr} {n cap : Nat} {bs : List UInt8}
    (hr : Rd L c0 w 1 (.slice q n cap) n (bs.map byt)) (p : Int) (hp : 0 ≤ p) (hp2 : p + n ≤ 9223372036854775807) (x y : Nat) (hxy : x + y * 1 ≤ n) (hn : n ≤ 1000000000) :
    Calls Try.prog 67 #[.agg #[.slice q n cap, .int .i64 p, wat u], .int .i64 (x : Int), .int .i64 (y : Int)] w fun r w' => ∃ v', r = .returned (.tuple #[v', .int .i64 0]) ∧ ∃ L', Step (fun d => d = cw ∨ d = c) L w L' w' ∧ WOpt L' cw w' u (tell l p x (y * 1)) ∧
      Own L' c w' 5 1 v' y ((nums bs x 1 y).map (numVal .u8)) := by
  have hbl : bs.length = n := by simpa using hr.1
  obtain ⟨q', cap', hv, hnc, hmc⟩ := hr.shape
  cases hv
  unfold maxLen at hmc
  obtain ⟨wB, hwB⟩ : ∃ wB, wB = w.alloc (Obj.cells #[.slice q n cap, .int .i64 p, wat u] 51) := ⟨_, rfl⟩
  have hbb : Below w.heap.size w wB := by rw [hwB]; exact below_alloc w _
  have st1 := Step.of_below (L := L) hbb (fun _ => False) 0
  have hW1 := hW.step st1 (by simp)
  have hr1 := hr.step st1 (by simp)
  generalize ext L w.heap.size 0 = L1 at *
  have S1 : Step (· = cw) L w L1 wB := st1.mono (fun _ h => h.elim)
  have hM : True := trivial
  rw [Nat.mul_one] at hxy
  have hme : True := trivial
  have HME := Lib.hid hme
  have hq : (y : Int) ≤ ((n : Int) - x) / 1 := by omega
  have hyb : (y : Int) * 1 ≤ 1000000000 := by omega
  have hyb2 : y ≤ 1000000000 := by omega
  have HMM := Lib.hid hM
  have HW := Lib.hid hwB
  have HBL := Lib.hid hbl
  clear hbb st1 hr hW hwB hbl hme hM
  go_enter Try.func67, Try.ntmps67
  go_wp2_with fail
  go_loop [8, 9] (fun wd x => ∃ j : Nat, j ≤ 1 ∧ wd = .int .i64 j ∧ x = .int .u8 (256 ^ (1 - j) - 1 : Nat)) (fun wd _ => 1 - (intOf wd).toNat)
  case atStart => exact ⟨0, by omega, rfl, rfl⟩
  case round =>
    obtain ⟨j, hj, rfl, rfl⟩ := hrel
    obtain rfl | rfl : j = 0 ∨ j = 1 := by omega
    · go_wp2_with fail
      go_round
      case rel => exact ⟨1, by omega, by go_num, by go_num⟩
      case measure => simp [intOf]
    · go_wp2_with fail
      rw [← HW.out]
      refine (read_calls hW1 hl q n cap p x y hnc (by omega) hxy hp hp2).mono ?_; rintro r w2 ⟨rfl, L2, st2, hW2⟩
      have hr2 := (Rd.cut hr1 hxy y (Nat.le_refl _) (by unfold maxLen; omega)).step st2 hcc
      have S2 := S1.trans st2
      obtain ⟨i1, hi1, hy0, hy1, hy2⟩ := info_parts infoNum0
      have hmk := run_make (P := Try.prog) w2 35 5 i1 _ Try.underlying35 hi1 hy0 .i64 .i64 (y : Int) (y : Int) (by omega) (by omega) (by rw [hy2]; omega) (by omega)
      obtain ⟨C, hC⟩ : ∃ C, C = madeCells (Value.int .u8 0).cells ((y : Int).toNat * i1.size) := ⟨_, rfl⟩
      rw [← hC] at hmk
      have hCs : C.size = y := by rw [hC, size_madeCells, hy1]; simp
      clear hC
      rw [show ((y : Int)).toNat = y from by simp] at hmk
      obtain ⟨st3, ow3⟩ := Own.made L2 c w2 5 1 y C.toList (by simp [hCs]) (by unfold maxLen; omega)
      rw [show C.toList.toArray = C from by simp] at st3 ow3
      have hW3 := hW2.step st3 (fun x => x)
      have hr3 := hr2.step st3 (fun x => x)
      have S3 := S2.trans (st3.mono (fun _ h => h.elim))
      generalize ext L2 w2.heap.size c = L3 at *
      have HC := Lib.hid hCs
      have HGL := Lib.hid (show ((bs.drop x).take y).length = y by have := HBL.out; simp; omega)
      clear hW1 hr1 st2 hW2 hr2 S1 S2 st3 hCs
      go_wp2_with fail
      clear hmk
      go_loopw [12, 56] (fun _ ix wr => ∃ (k : Nat) (LW : Nat → Nat) (zs : List Value), k ≤ y ∧ ix = .int .i64 (k : Int) ∧ Own LW c wr 5 1 (.slice (some ⟨w2.heap.size, 0, none⟩) y y) y zs ∧ zs.take k = (nums bs x 1 k).map (numVal .u8) ∧
        WOpt LW cw wr u (tell l p x y) ∧ Rd LW c0 wr 1 (.slice (cutAt q x y) y y) y (((bs.drop x).take y).map byt) ∧ Step (fun d => d = cw ∨ d = c) L w LW wr) (fun _ ix _ => y - (intOf ix).toNat)
      case atStart => exact ⟨0, L3, C.toList, by omega, rfl, ow3, rfl, hW3, hr3, S3.mono (fun d hd => .inl hd)⟩
      case round =>
        obtain ⟨k, LW, zs, hk, rfl, owW, htk, hWW, hrW, SW⟩ := hrel
        have HTK := Lib.hid htk
        have HSW := Lib.hid SW
        have HWW := Lib.hid hWW
        have hzl : zs.length = y := by simpa using owW.length
        have HZL := Lib.hid hzl
        clear htk SW hWW hW3 hr3 S3 ow3
        by_cases hlt : k < y
        · have hkW : k * 1 + 1 ≤ y := by omega
          obtain ⟨b1, o1, hqq, hLb, hcell⟩ := hrW.at (k := k * 1) (by rw [HGL.out]; omega)
          have hrN := Rd.rcut hrW (a := k * 1) (m := 1) hkW
          rw [hqq] at hrW hrN ⊢
          rw [show rcut (some ⟨b1, o1, none⟩) (k * 1) (y - k * 1) = some ⟨b1, o1 + k * 1, none⟩ from by unfold rcut; rw [if_neg (by omega)]; simp [add_lit]] at hrN
          have hgg : (((bs.drop x).take y).drop (k * 1)).take 1 = got bs (x + k * 1) 1 := by
            unfold got
            rw [List.drop_take, List.take_take, List.drop_drop, Nat.min_eq_left (by omega)]
          rw [hgg] at hrN
          have HRW := Lib.hid hrW
          clear hgg hLb hcell
          rw [Nat.mul_one] at hrN
          go_wp2_with fail
          refine (number_calls hrN (by omega)).mono ?_; rintro r w4 ⟨rfl, rfl⟩
          have hlv := leV_lt (got bs (x + k) 1)
          rw [got_len (by have := HBL.out; omega)] at hlv
          have hwv : ((leV (got bs (x + k) 1) : Nat) : Int) % 256 = (leV (got bs (x + k) 1) : Nat) := by
            omega
          have hns := nums_succ bs x 1 k
          rw [Nat.mul_one] at hns
          generalize leV (got bs (x + k) 1) = V at *
          obtain ⟨g2, cp2, hv2, hLg, d0, d1, ow4, st4⟩ := Own.set owW (j := k) (by rw [HZL.out]; exact hlt) (numVal .u8 V)
          cases hv2
          have HWV := Lib.hid hwv
          have HNS := Lib.hid hns
          have HO4 := Lib.hid ow4
          clear hlv hwv hns hrN ow4 owW
          go_wp2_with fail
          rw [HWV.out]
          go_roundw
          case rel =>
            refine ⟨k + 1, LW, zs.set k (numVal .u8 V), by omega, by go_num, HO4.out, ?_, HWW.out.step st4 (fun h => hc h.symm), HRW.out.step st4 hc0, HSW.out.trans (st4.mono (fun d hd => ?_))⟩
            · rw [List.take_succ_eq_append_getElem (by simpa using (by rw [HZL.out]; exact hlt : k < zs.length)), List.take_set_of_le (Nat.le_refl _), HTK.out, HNS.out]
              simp
            · exact .inr hd
          case measure => simp [intOf]; omega
        · obtain rfl : k = y := by omega
          rw [List.take_of_length_le (by rw [HZL.out]; exact Nat.le_refl _)] at HTK
          have HO4 := Lib.hid owW
          clear owW hrW
          go_wp2_with fail
          go_ret2
          exact ⟨_, rfl, LW, HSW.out, by rw [Nat.mul_one]; exact HWW.out, by have := HO4.out; rwa [HTK.out] at this⟩

set_option maxHeartbeats 1000000 in
theorem numbers1_yes {L : Nat → Nat} {c cw c0 : Nat} (hcc : c0 ≠ cw) (hc : c ≠ cw) (hc0 : c0 ≠ c) {w : World} {u : Option Nat} {l : List (Int × Int)} (hW : WOpt L cw w u l) (hl : l.length ≤ 1000000000000) {q : Option Addr} {n cap : Nat} {bs : List UInt8}
    (hr : Rd L c0 w 1 (.slice q n cap) n (bs.map byt)) (p : Int) (hp : 0 ≤ p) (hp2 : p + n ≤ 9223372036854775807) (x y : Nat) (hxy : x + y * 2 ≤ n) (hn : n ≤ 1000000000) :
    Calls Try.prog 68 #[.agg #[.slice q n cap, .int .i64 p, wat u], .int .i64 (x : Int), .int .i64 (y : Int)] w fun r w' => ∃ v', r = .returned (.tuple #[v', .int .i64 0]) ∧ ∃ L', Step (fun d => d = cw ∨ d = c) L w L' w' ∧ WOpt L' cw w' u (tell l p x (y * 2)) ∧
      Own L' c w' 118 1 v' y ((nums bs x 2 y).map (numVal .u16)) := by
  have hbl : bs.length = n := by simpa using hr.1
  obtain ⟨q', cap', hv, hnc, hmc⟩ := hr.shape
  cases hv
  unfold maxLen at hmc
  obtain ⟨wB, hwB⟩ : ∃ wB, wB = w.alloc (Obj.cells #[.slice q n cap, .int .i64 p, wat u] 51) := ⟨_, rfl⟩
  have hbb : Below w.heap.size w wB := by rw [hwB]; exact below_alloc w _
  have st1 := Step.of_below (L := L) hbb (fun _ => False) 0
  have hW1 := hW.step st1 (by simp)
  have hr1 := hr.step st1 (by simp)
  generalize ext L w.heap.size 0 = L1 at *
  have S1 : Step (· = cw) L w L1 wB := st1.mono (fun _ h => h.elim)
  obtain ⟨M, hM⟩ : ∃ M, M = y * 2 := ⟨_, rfl⟩
  rw [← hM] at hxy
  have hme : (y : Int) * 2 = (M : Int) := by rw [hM]; omega
  have HME := Lib.hid hme
  have hq : (y : Int) ≤ ((n : Int) - x) / 2 := by omega
  have hyb : (y : Int) * 2 ≤ 1000000000 := by omega
  have hyb2 : y ≤ 1000000000 := by omega
  have HMM := Lib.hid hM
  have HW := Lib.hid hwB
  have HBL := Lib.hid hbl
  clear hbb st1 hr hW hwB hbl hme hM
  go_enter Try.func68, Try.ntmps68
  go_wp2_with fail
  go_loop [8, 9] (fun wd x => ∃ j : Nat, j ≤ 2 ∧ wd = .int .i64 j ∧ x = .int .u16 (256 ^ (2 - j) - 1 : Nat)) (fun wd _ => 2 - (intOf wd).toNat)
  case atStart => exact ⟨0, by omega, rfl, rfl⟩
  case round =>
    obtain ⟨j, hj, rfl, rfl⟩ := hrel
    obtain rfl | rfl | rfl : j = 0 ∨ j = 1 ∨ j = 2 := by omega
    · go_wp2_with fail
      go_round
      case rel => exact ⟨1, by omega, by go_num, by go_num⟩
      case measure => simp [intOf]
    · go_wp2_with fail
      go_round
      case rel => exact ⟨2, by omega, by go_num, by go_num⟩
      case measure => simp [intOf]
    · go_wp2_with fail
      rw [← HW.out]
      rw [HME.out]
      refine (read_calls hW1 hl q n cap p x M hnc (by omega) hxy hp hp2).mono ?_; rintro r w2 ⟨rfl, L2, st2, hW2⟩
      have hr2 := (Rd.cut hr1 hxy M (Nat.le_refl _) (by unfold maxLen; omega)).step st2 hcc
      have S2 := S1.trans st2
      obtain ⟨i1, hi1, hy0, hy1, hy2⟩ := info_parts infoNum1
      have hmk := run_make (P := Try.prog) w2 117 118 i1 _ Try.underlying117 hi1 hy0 .i64 .i64 (y : Int) (y : Int) (by omega) (by omega) (by rw [hy2]; omega) (by omega)
      obtain ⟨C, hC⟩ : ∃ C, C = madeCells (Value.int .u16 0).cells ((y : Int).toNat * i1.size) := ⟨_, rfl⟩
      rw [← hC] at hmk
      have hCs : C.size = y := by rw [hC, size_madeCells, hy1]; simp
      clear hC
      rw [show ((y : Int)).toNat = y from by simp] at hmk
      obtain ⟨st3, ow3⟩ := Own.made L2 c w2 118 1 y C.toList (by simp [hCs]) (by unfold maxLen; omega)
      rw [show C.toList.toArray = C from by simp] at st3 ow3
      have hW3 := hW2.step st3 (fun x => x)
      have hr3 := hr2.step st3 (fun x => x)
      have S3 := S2.trans (st3.mono (fun _ h => h.elim))
      generalize ext L2 w2.heap.size c = L3 at *
      have HC := Lib.hid hCs
      have HGL := Lib.hid (show ((bs.drop x).take M).length = M by have := HBL.out; simp; omega)
      clear hW1 hr1 st2 hW2 hr2 S1 S2 st3 hCs
      go_wp2_with fail
      clear hmk
      go_loopw [12, 56] (fun _ ix wr => ∃ (k : Nat) (LW : Nat → Nat) (zs : List Value), k ≤ y ∧ ix = .int .i64 (k : Int) ∧ Own LW c wr 118 1 (.slice (some ⟨w2.heap.size, 0, none⟩) y y) y zs ∧ zs.take k = (nums bs x 2 k).map (numVal .u16) ∧
        WOpt LW cw wr u (tell l p x M) ∧ Rd LW c0 wr 1 (.slice (cutAt q x M) M M) M (((bs.drop x).take M).map byt) ∧ Step (fun d => d = cw ∨ d = c) L w LW wr) (fun _ ix _ => y - (intOf ix).toNat)
      case atStart => exact ⟨0, L3, C.toList, by omega, rfl, ow3, rfl, hW3, hr3, S3.mono (fun d hd => .inl hd)⟩
      case round =>
        obtain ⟨k, LW, zs, hk, rfl, owW, htk, hWW, hrW, SW⟩ := hrel
        have HTK := Lib.hid htk
        have HSW := Lib.hid SW
        have HWW := Lib.hid hWW
        have hzl : zs.length = y := by simpa using owW.length
        have HZL := Lib.hid hzl
        clear htk SW hWW hW3 hr3 S3 ow3
        by_cases hlt : k < y
        · have hkW : k * 2 + 2 ≤ M := by have := HMM.out; omega
          obtain ⟨b1, o1, hqq, hLb, hcell⟩ := hrW.at (k := k * 2) (by rw [HGL.out]; omega)
          have hrN := Rd.rcut hrW (a := k * 2) (m := 2) hkW
          rw [hqq] at hrW hrN ⊢
          rw [show rcut (some ⟨b1, o1, none⟩) (k * 2) (M - k * 2) = some ⟨b1, o1 + k * 2, none⟩ from by unfold rcut; rw [if_neg (by omega)]; simp [add_lit]] at hrN
          have hgg : (((bs.drop x).take M).drop (k * 2)).take 2 = got bs (x + k * 2) 2 := by
            unfold got
            rw [List.drop_take, List.take_take, List.drop_drop, Nat.min_eq_left (by omega)]
          rw [hgg] at hrN
          have HRW := Lib.hid hrW
          clear hgg hLb hcell
          go_wp2_with fail
          rw [show (k + 1) * 2 - k * 2 = 2 from by omega]
          refine (number_calls hrN (by omega)).mono ?_; rintro r w4 ⟨rfl, rfl⟩
          have hlv := leV_lt (got bs (x + k * 2) 2)
          rw [got_len (by have := HBL.out; omega)] at hlv
          have hwv : IntKind.u16.wrap ((leV (got bs (x + k * 2) 2) : Nat) : Int) = (leV (got bs (x + k * 2) 2) : Nat) := by
            simp [IntKind.wrap, IntKind.bits, IntKind.signed]; omega
          have hns := nums_succ bs x 2 k
          generalize leV (got bs (x + k * 2) 2) = V at *
          obtain ⟨g2, cp2, hv2, hLg, d0, d1, ow4, st4⟩ := Own.set owW (j := k) (by rw [HZL.out]; exact hlt) (numVal .u16 V)
          cases hv2
          have HWV := Lib.hid hwv
          have HNS := Lib.hid hns
          have HO4 := Lib.hid ow4
          clear hlv hwv hns hrN ow4 owW
          go_wp2_with fail
          rw [HWV.out]
          go_roundw
          case rel =>
            refine ⟨k + 1, LW, zs.set k (numVal .u16 V), by omega, by go_num, HO4.out, ?_, HWW.out.step st4 (fun h => hc h.symm), HRW.out.step st4 hc0, HSW.out.trans (st4.mono (fun d hd => ?_))⟩
            · rw [List.take_succ_eq_append_getElem (by simpa using (by rw [HZL.out]; exact hlt : k < zs.length)), List.take_set_of_le (Nat.le_refl _), HTK.out, HNS.out]
              simp
            · exact .inr hd
          case measure => simp [intOf]; omega
        · obtain rfl : k = y := by omega
          rw [List.take_of_length_le (by rw [HZL.out]; exact Nat.le_refl _)] at HTK
          have HO4 := Lib.hid owW
          clear owW hrW
          go_wp2_with fail
          go_ret2
          exact ⟨_, rfl, LW, HSW.out, by have := HWW.out; rwa [HMM.out] at this, by have := HO4.out; rwa [HTK.out] at this⟩

set_option maxHeartbeats 1000000 in
theorem numbers2_yes {L : Nat → Nat} {c cw c0 : Nat} (hcc : c0 ≠ cw) (hc : c ≠ cw) (hc0 : c0 ≠ c) {w : World} {u : Option Nat} {l : List (Int × Int)} (hW : WOpt L cw w u l) (hl : l.length ≤ 1000000000000) {q : Option Addr} {n cap : Nat} {bs : List UInt8}
    (hr : Rd L c0 w 1 (.slice q n cap) n (bs.map byt)) (p : Int) (hp : 0 ≤ p) (hp2 : p + n ≤ 9223372036854775807) (x y : Nat) (hxy : x + y * 4 ≤ n) (hn : n ≤ 1000000000) :
    Calls Try.prog 69 #[.agg #[.slice q n cap, .int .i64 p, wat u], .int .i64 (x : Int), .int .i64 (y : Int)] w fun r w' => ∃ v', r = .returned (.tuple #[v', .int .i64 0]) ∧ ∃ L', Step (fun d => d = cw ∨ d = c) L w L' w' ∧ WOpt L' cw w' u (tell l p x (y * 4)) ∧
      Own L' c w' 120 1 v' y ((nums bs x 4 y).map (numVal .u32)) := by
  have hbl : bs.length = n := by simpa using hr.1
  obtain ⟨q', cap', hv, hnc, hmc⟩ := hr.shape
  cases hv
  unfold maxLen at hmc
  obtain ⟨wB, hwB⟩ : ∃ wB, wB = w.alloc (Obj.cells #[.slice q n cap, .int .i64 p, wat u] 51) := ⟨_, rfl⟩
  have hbb : Below w.heap.size w wB := by rw [hwB]; exact below_alloc w _
  have st1 := Step.of_below (L := L) hbb (fun _ => False) 0
  have hW1 := hW.step st1 (by simp)
  have hr1 := hr.step st1 (by simp)
  generalize ext L w.heap.size 0 = L1 at *
  have S1 : Step (· = cw) L w L1 wB := st1.mono (fun _ h => h.elim)
  obtain ⟨M, hM⟩ : ∃ M, M = y * 4 := ⟨_, rfl⟩
  rw [← hM] at hxy
  have hme : (y : Int) * 4 = (M : Int) := by rw [hM]; omega
  have HME := Lib.hid hme
  have hq : (y : Int) ≤ ((n : Int) - x) / 4 := by omega
  have hyb : (y : Int) * 4 ≤ 1000000000 := by omega
  have hyb2 : y ≤ 1000000000 := by omega
  have HMM := Lib.hid hM
  have HW := Lib.hid hwB
  have HBL := Lib.hid hbl
  clear hbb st1 hr hW hwB hbl hme hM
  go_enter Try.func69, Try.ntmps69
  go_wp2_with fail
  go_loop [8, 9] (fun wd x => ∃ j : Nat, j ≤ 4 ∧ wd = .int .i64 j ∧ x = .int .u32 (256 ^ (4 - j) - 1 : Nat)) (fun wd _ => 4 - (intOf wd).toNat)
  case atStart => exact ⟨0, by omega, rfl, rfl⟩
  case round =>
    obtain ⟨j, hj, rfl, rfl⟩ := hrel
    obtain rfl | rfl | rfl | rfl | rfl : j = 0 ∨ j = 1 ∨ j = 2 ∨ j = 3 ∨ j = 4 := by omega
    · go_wp2_with fail
      go_round
      case rel => exact ⟨1, by omega, by go_num, by go_num⟩
      case measure => simp [intOf]
    · go_wp2_with fail
      go_round
      case rel => exact ⟨2, by omega, by go_num, by go_num⟩
      case measure => simp [intOf]
    · go_wp2_with fail
      go_round
      case rel => exact ⟨3, by omega, by go_num, by go_num⟩
      case measure => simp [intOf]
    · go_wp2_with fail
      go_round
      case rel => exact ⟨4, by omega, by go_num, by go_num⟩
      case measure => simp [intOf]
    · go_wp2_with fail
      rw [← HW.out]
      rw [HME.out]
      refine (read_calls hW1 hl q n cap p x M hnc (by omega) hxy hp hp2).mono ?_; rintro r w2 ⟨rfl, L2, st2, hW2⟩
      have hr2 := (Rd.cut hr1 hxy M (Nat.le_refl _) (by unfold maxLen; omega)).step st2 hcc
      have S2 := S1.trans st2
      obtain ⟨i1, hi1, hy0, hy1, hy2⟩ := info_parts infoNum2
      have hmk := run_make (P := Try.prog) w2 119 120 i1 _ Try.underlying119 hi1 hy0 .i64 .i64 (y : Int) (y : Int) (by omega) (by omega) (by rw [hy2]; omega) (by omega)
      obtain ⟨C, hC⟩ : ∃ C, C = madeCells (Value.int .u32 0).cells ((y : Int).toNat * i1.size) := ⟨_, rfl⟩
      rw [← hC] at hmk
      have hCs : C.size = y := by rw [hC, size_madeCells, hy1]; simp
      clear hC
      rw [show ((y : Int)).toNat = y from by simp] at hmk
      obtain ⟨st3, ow3⟩ := Own.made L2 c w2 120 1 y C.toList (by simp [hCs]) (by unfold maxLen; omega)
      rw [show C.toList.toArray = C from by simp] at st3 ow3
      have hW3 := hW2.step st3 (fun x => x)
      have hr3 := hr2.step st3 (fun x => x)
      have S3 := S2.trans (st3.mono (fun _ h => h.elim))
      generalize ext L2 w2.heap.size c = L3 at *
      have HC := Lib.hid hCs
      have HGL := Lib.hid (show ((bs.drop x).take M).length = M by have := HBL.out; simp; omega)
      clear hW1 hr1 st2 hW2 hr2 S1 S2 st3 hCs
      go_wp2_with fail
      clear hmk
      go_loopw [12, 56] (fun _ ix wr => ∃ (k : Nat) (LW : Nat → Nat) (zs : List Value), k ≤ y ∧ ix = .int .i64 (k : Int) ∧ Own LW c wr 120 1 (.slice (some ⟨w2.heap.size, 0, none⟩) y y) y zs ∧ zs.take k = (nums bs x 4 k).map (numVal .u32) ∧
        WOpt LW cw wr u (tell l p x M) ∧ Rd LW c0 wr 1 (.slice (cutAt q x M) M M) M (((bs.drop x).take M).map byt) ∧ Step (fun d => d = cw ∨ d = c) L w LW wr) (fun _ ix _ => y - (intOf ix).toNat)
      case atStart => exact ⟨0, L3, C.toList, by omega, rfl, ow3, rfl, hW3, hr3, S3.mono (fun d hd => .inl hd)⟩
      case round =>
        obtain ⟨k, LW, zs, hk, rfl, owW, htk, hWW, hrW, SW⟩ := hrel
        have HTK := Lib.hid htk
        have HSW := Lib.hid SW
        have HWW := Lib.hid hWW
        have hzl : zs.length = y := by simpa using owW.length
        have HZL := Lib.hid hzl
        clear htk SW hWW hW3 hr3 S3 ow3
        by_cases hlt : k < y
        · have hkW : k * 4 + 4 ≤ M := by have := HMM.out; omega
          obtain ⟨b1, o1, hqq, hLb, hcell⟩ := hrW.at (k := k * 4) (by rw [HGL.out]; omega)
          have hrN := Rd.rcut hrW (a := k * 4) (m := 4) hkW
          rw [hqq] at hrW hrN ⊢
          rw [show rcut (some ⟨b1, o1, none⟩) (k * 4) (M - k * 4) = some ⟨b1, o1 + k * 4, none⟩ from by unfold rcut; rw [if_neg (by omega)]; simp [add_lit]] at hrN
          have hgg : (((bs.drop x).take M).drop (k * 4)).take 4 = got bs (x + k * 4) 4 := by
            unfold got
            rw [List.drop_take, List.take_take, List.drop_drop, Nat.min_eq_left (by omega)]
          rw [hgg] at hrN
          have HRW := Lib.hid hrW
          clear hgg hLb hcell
          go_wp2_with fail
          rw [show (k + 1) * 4 - k * 4 = 4 from by omega]
          refine (number_calls hrN (by omega)).mono ?_; rintro r w4 ⟨rfl, rfl⟩
          have hlv := leV_lt (got bs (x + k * 4) 4)
          rw [got_len (by have := HBL.out; omega)] at hlv
          have hwv : ((leV (got bs (x + k * 4) 4) : Nat) : Int) % 4294967296 = (leV (got bs (x + k * 4) 4) : Nat) := by
            omega
          have hns := nums_succ bs x 4 k
          generalize leV (got bs (x + k * 4) 4) = V at *
          obtain ⟨g2, cp2, hv2, hLg, d0, d1, ow4, st4⟩ := Own.set owW (j := k) (by rw [HZL.out]; exact hlt) (numVal .u32 V)
          cases hv2
          have HWV := Lib.hid hwv
          have HNS := Lib.hid hns
          have HO4 := Lib.hid ow4
          clear hlv hwv hns hrN ow4 owW
          go_wp2_with fail
          rw [HWV.out]
          go_roundw
          case rel =>
            refine ⟨k + 1, LW, zs.set k (numVal .u32 V), by omega, by go_num, HO4.out, ?_, HWW.out.step st4 (fun h => hc h.symm), HRW.out.step st4 hc0, HSW.out.trans (st4.mono (fun d hd => ?_))⟩
            · rw [List.take_succ_eq_append_getElem (by simpa using (by rw [HZL.out]; exact hlt : k < zs.length)), List.take_set_of_le (Nat.le_refl _), HTK.out, HNS.out]
              simp
            · exact .inr hd
          case measure => simp [intOf]; omega
        · obtain rfl : k = y := by omega
          rw [List.take_of_length_le (by rw [HZL.out]; exact Nat.le_refl _)] at HTK
          have HO4 := Lib.hid owW
          clear owW hrW
          go_wp2_with fail
          go_ret2
          exact ⟨_, rfl, LW, HSW.out, by have := HWW.out; rwa [HMM.out] at this, by have := HO4.out; rwa [HTK.out] at this⟩

set_option maxHeartbeats 1000000 in
theorem numbers3_yes {L : Nat → Nat} {c cw c0 : Nat} (hcc : c0 ≠ cw) (hc : c ≠ cw) (hc0 : c0 ≠ c) {w : World} {u : Option Nat} {l : List (Int × Int)} (hW : WOpt L cw w u l) (hl : l.length ≤ 1000000000000) {q : Option Addr} {n cap : Nat} {bs : List UInt8}
    (hr : Rd L c0 w 1 (.slice q n cap) n (bs.map byt)) (p : Int) (hp : 0 ≤ p) (hp2 : p + n ≤ 9223372036854775807) (x y : Nat) (hxy : x + y * 8 ≤ n) (hn : n ≤ 1000000000) :
    Calls Try.prog 70 #[.agg #[.slice q n cap, .int .i64 p, wat u], .int .i64 (x : Int), .int .i64 (y : Int)] w fun r w' => ∃ v', r = .returned (.tuple #[v', .int .i64 0]) ∧ ∃ L', Step (fun d => d = cw ∨ d = c) L w L' w' ∧ WOpt L' cw w' u (tell l p x (y * 8)) ∧
      Own L' c w' 34 1 v' y ((nums bs x 8 y).map (numVal .u64)) := by
  have hbl : bs.length = n := by simpa using hr.1
  obtain ⟨q', cap', hv, hnc, hmc⟩ := hr.shape
  cases hv
  unfold maxLen at hmc
  obtain ⟨wB, hwB⟩ : ∃ wB, wB = w.alloc (Obj.cells #[.slice q n cap, .int .i64 p, wat u] 51) := ⟨_, rfl⟩
  have hbb : Below w.heap.size w wB := by rw [hwB]; exact below_alloc w _
  have st1 := Step.of_below (L := L) hbb (fun _ => False) 0
  have hW1 := hW.step st1 (by simp)
  have hr1 := hr.step st1 (by simp)
  generalize ext L w.heap.size 0 = L1 at *
  have S1 : Step (· = cw) L w L1 wB := st1.mono (fun _ h => h.elim)
  obtain ⟨M, hM⟩ : ∃ M, M = y * 8 := ⟨_, rfl⟩
  rw [← hM] at hxy
  have hme : (y : Int) * 8 = (M : Int) := by rw [hM]; omega
  have HME := Lib.hid hme
  have hq : (y : Int) ≤ ((n : Int) - x) / 8 := by omega
  have hyb : (y : Int) * 8 ≤ 1000000000 := by omega
  have hyb2 : y ≤ 1000000000 := by omega
  have HMM := Lib.hid hM
  have HW := Lib.hid hwB
  have HBL := Lib.hid hbl
  clear hbb st1 hr hW hwB hbl hme hM
  go_enter Try.func70, Try.ntmps70
  go_wp2_with fail
  go_loop [8, 9] (fun wd x => ∃ j : Nat, j ≤ 8 ∧ wd = .int .i64 j ∧ x = .int .u64 (256 ^ (8 - j) - 1 : Nat)) (fun wd _ => 8 - (intOf wd).toNat)
  case atStart => exact ⟨0, by omega, rfl, rfl⟩
  case round =>
    obtain ⟨j, hj, rfl, rfl⟩ := hrel
    obtain rfl | rfl | rfl | rfl | rfl | rfl | rfl | rfl | rfl : j = 0 ∨ j = 1 ∨ j = 2 ∨ j = 3 ∨ j = 4 ∨ j = 5 ∨ j = 6 ∨ j = 7 ∨ j = 8 := by omega
    · go_wp2_with fail
      go_round
      case rel => exact ⟨1, by omega, by go_num, by go_num⟩
      case measure => simp [intOf]
    · go_wp2_with fail
      go_round
      case rel => exact ⟨2, by omega, by go_num, by go_num⟩
      case measure => simp [intOf]
    · go_wp2_with fail
      go_round
      case rel => exact ⟨3, by omega, by go_num, by go_num⟩
      case measure => simp [intOf]
    · go_wp2_with fail
      go_round
      case rel => exact ⟨4, by omega, by go_num, by go_num⟩
      case measure => simp [intOf]
    · go_wp2_with fail
      go_round
      case rel => exact ⟨5, by omega, by go_num, by go_num⟩
      case measure => simp [intOf]
    · go_wp2_with fail
      go_round
      case rel => exact ⟨6, by omega, by go_num, by go_num⟩
      case measure => simp [intOf]
    · go_wp2_with fail
      go_round
      case rel => exact ⟨7, by omega, by go_num, by go_num⟩
      case measure => simp [intOf]
    · go_wp2_with fail
      go_round
      case rel => exact ⟨8, by omega, by go_num, by go_num⟩
      case measure => simp [intOf]
    · go_wp2_with fail
      rw [← HW.out]
      rw [HME.out]
      refine (read_calls hW1 hl q n cap p x M hnc (by omega) hxy hp hp2).mono ?_; rintro r w2 ⟨rfl, L2, st2, hW2⟩
      have hr2 := (Rd.cut hr1 hxy M (Nat.le_refl _) (by unfold maxLen; omega)).step st2 hcc
      have S2 := S1.trans st2
      obtain ⟨i1, hi1, hy0, hy1, hy2⟩ := info_parts infoNum3
      have hmk := run_make (P := Try.prog) w2 121 34 i1 _ Try.underlying121 hi1 hy0 .i64 .i64 (y : Int) (y : Int) (by omega) (by omega) (by rw [hy2]; omega) (by omega)
      obtain ⟨C, hC⟩ : ∃ C, C = madeCells (Value.int .u64 0).cells ((y : Int).toNat * i1.size) := ⟨_, rfl⟩
      rw [← hC] at hmk
      have hCs : C.size = y := by rw [hC, size_madeCells, hy1]; simp
      clear hC
      rw [show ((y : Int)).toNat = y from by simp] at hmk
      obtain ⟨st3, ow3⟩ := Own.made L2 c w2 34 1 y C.toList (by simp [hCs]) (by unfold maxLen; omega)
      rw [show C.toList.toArray = C from by simp] at st3 ow3
      have hW3 := hW2.step st3 (fun x => x)
      have hr3 := hr2.step st3 (fun x => x)
      have S3 := S2.trans (st3.mono (fun _ h => h.elim))
      generalize ext L2 w2.heap.size c = L3 at *
      have HC := Lib.hid hCs
      have HGL := Lib.hid (show ((bs.drop x).take M).length = M by have := HBL.out; simp; omega)
      clear hW1 hr1 st2 hW2 hr2 S1 S2 st3 hCs
      go_wp2_with fail
      clear hmk
      go_loopw [12, 56] (fun _ ix wr => ∃ (k : Nat) (LW : Nat → Nat) (zs : List Value), k ≤ y ∧ ix = .int .i64 (k : Int) ∧ Own LW c wr 34 1 (.slice (some ⟨w2.heap.size, 0, none⟩) y y) y zs ∧ zs.take k = (nums bs x 8 k).map (numVal .u64) ∧
        WOpt LW cw wr u (tell l p x M) ∧ Rd LW c0 wr 1 (.slice (cutAt q x M) M M) M (((bs.drop x).take M).map byt) ∧ Step (fun d => d = cw ∨ d = c) L w LW wr) (fun _ ix _ => y - (intOf ix).toNat)
      case atStart => exact ⟨0, L3, C.toList, by omega, rfl, ow3, rfl, hW3, hr3, S3.mono (fun d hd => .inl hd)⟩
      case round =>
        obtain ⟨k, LW, zs, hk, rfl, owW, htk, hWW, hrW, SW⟩ := hrel
        have HTK := Lib.hid htk
        have HSW := Lib.hid SW
        have HWW := Lib.hid hWW
        have hzl : zs.length = y := by simpa using owW.length
        have HZL := Lib.hid hzl
        clear htk SW hWW hW3 hr3 S3 ow3
        by_cases hlt : k < y
        · have hkW : k * 8 + 8 ≤ M := by have := HMM.out; omega
          obtain ⟨b1, o1, hqq, hLb, hcell⟩ := hrW.at (k := k * 8) (by rw [HGL.out]; omega)
          have hrN := Rd.rcut hrW (a := k * 8) (m := 8) hkW
          rw [hqq] at hrW hrN ⊢
          rw [show rcut (some ⟨b1, o1, none⟩) (k * 8) (M - k * 8) = some ⟨b1, o1 + k * 8, none⟩ from by unfold rcut; rw [if_neg (by omega)]; simp [add_lit]] at hrN
          have hgg : (((bs.drop x).take M).drop (k * 8)).take 8 = got bs (x + k * 8) 8 := by
            unfold got
            rw [List.drop_take, List.take_take, List.drop_drop, Nat.min_eq_left (by omega)]
          rw [hgg] at hrN
          have HRW := Lib.hid hrW
          clear hgg hLb hcell
          go_wp2_with fail
          rw [show (k + 1) * 8 - k * 8 = 8 from by omega]
          refine (number_calls hrN (by omega)).mono ?_; rintro r w4 ⟨rfl, rfl⟩
          have hlv := leV_lt (got bs (x + k * 8) 8)
          rw [got_len (by have := HBL.out; omega)] at hlv
          have hwv : ((leV (got bs (x + k * 8) 8) : Nat) : Int) = (leV (got bs (x + k * 8) 8) : Nat) := by
            rfl
          have hns := nums_succ bs x 8 k
          generalize leV (got bs (x + k * 8) 8) = V at *
          obtain ⟨g2, cp2, hv2, hLg, d0, d1, ow4, st4⟩ := Own.set owW (j := k) (by rw [HZL.out]; exact hlt) (numVal .u64 V)
          cases hv2
          have HWV := Lib.hid hwv
          have HNS := Lib.hid hns
          have HO4 := Lib.hid ow4
          clear hlv hwv hns hrN ow4 owW
          go_wp2_with fail
          go_roundw
          case rel =>
            refine ⟨k + 1, LW, zs.set k (numVal .u64 V), by omega, by go_num, HO4.out, ?_, HWW.out.step st4 (fun h => hc h.symm), HRW.out.step st4 hc0, HSW.out.trans (st4.mono (fun d hd => ?_))⟩
            · rw [List.take_succ_eq_append_getElem (by simpa using (by rw [HZL.out]; exact hlt : k < zs.length)), List.take_set_of_le (Nat.le_refl _), HTK.out, HNS.out]
              simp
            · exact .inr hd
          case measure => simp [intOf]; omega
        · obtain rfl : k = y := by omega
          rw [List.take_of_length_le (by rw [HZL.out]; exact Nat.le_refl _)] at HTK
          have HO4 := Lib.hid owW
          clear owW hrW
          go_wp2_with fail
          go_ret2
          exact ⟨_, rfl, LW, HSW.out, by have := HWW.out; rwa [HMM.out] at this, by have := HO4.out; rwa [HTK.out] at this⟩

end Go.Proofs.Ytajaonnpekdklaa.Vr
