import Derived.Test.YtajaonnpekdklaaVrI
set_option linter.unusedVariables false
set_option maxRecDepth 100000
/-! Numbers (printed by wip/tools/vrk.py). -/
namespace Go.Proofs.Ytajaonnpekdklaa.Vr
open Go.ChangeShapes Go.WideShapes Go.ChangeAt Go.RowKit Mem Vw

/-- y numbers of W bytes each from x on. -/
def nums (bs : List UInt8) (x W y : Nat) : List Nat := (List.range y).map fun i => leV (got bs (x + i * W) W)
theorem nums_length (bs : List UInt8) (x W y : Nat) : (nums bs x W y).length = y := by simp [nums]
theorem nums_succ (bs : List UInt8) (x W y : Nat) : nums bs x W (y + 1) = nums bs x W y ++ [leV (got bs (x + y * W) W)] := by simp [nums, List.range_succ]

def numVal (k : IntKind) (z : Nat) : Value := .int k (z : Int)

def numB (len : Nat) (a n : Int) (W : Nat) : Bool := decide (0 ≤ a) && decide (0 ≤ n) && decide (a + n * W ≤ len)
theorem numB_true {len : Nat} {a n : Int} {W : Nat} (h : numB len a n W = true) : ∃ x y : Nat, a = x ∧ n = y ∧ x + y * W ≤ len := by
  simp [numB] at h
  refine ⟨a.toNat, n.toNat, by omega, by omega, ?_⟩
  have h1 : ((a.toNat : Nat) : Int) = a := by omega
  have h2 : ((n.toNat : Nat) : Int) = n := by omega
  have : ((a.toNat + n.toNat * W : Nat) : Int) ≤ len := by push_cast; rw [h1, h2]; exact h.2
  omega

theorem infoNum0 : (Try.prog.info? 5).map (fun i => (i.zero, i.size, i.bytes)) = some (some (.int .u8 0), 1, 1) := by kernel_rfl

theorem numbers0_no {w : World} (q : Option Addr) (n cap : Nat) (p : Int) (u : Value) (a m : Int) (hn : n ≤ 9223372036854775807) (hb : numB n a m 1 = false) (ha : -9223372036854775808 ≤ a) (hm : -9223372036854775808 ≤ m) (ha2 : a ≤ 9223372036854775807) :
    Calls Try.prog 67 #[.agg #[.slice q n cap, .int .i64 p, u], .int .i64 a, .int .i64 m] w fun e w' => e = .returned (.tuple #[.slice none 0 0, .int .i64 2]) ∧ Below w.heap.size w w' := by
  have hbb := below_alloc w (.cells #[.slice q n cap, .int .i64 p, u] 51)
  go_enter Try.func67, Try.ntmps67
  go_wp2_with fail
  go_loop [8, 9] (fun wd x => ∃ j : Nat, j ≤ 1 ∧ wd = .int .i64 j ∧ x = .int .u8 (256 ^ (1 - j) - 1 : Nat)) (fun wd _ => 1 - (intOf wd).toNat)
  case atStart => exact ⟨0, by omega, rfl, rfl⟩
  case round =>
    obtain ⟨j, hj, rfl, rfl⟩ := hrel
    obtain rfl | rfl : j = 0 ∨ j = 1 := by omega
    · go_wp2_with fail
      go_round
      case rel => exact ⟨1, by omega, by go_num, by go_num⟩
      case measure => simp [intOf]
    · by_cases q1 : a < 0
      · go_wp2_with fail
        go_ret2
        exact ⟨rfl, hbb⟩
      · by_cases q2 : m < 0
        · go_wp2_with fail
          go_ret2
          exact ⟨rfl, hbb⟩
        · by_cases q3 : (n : Int) < a
          · go_wp2_with fail
            go_ret2
            exact ⟨rfl, hbb⟩
          · have q4 : ¬ (a + m * 1 ≤ n) := by
              intro h4; simp [numB] at hb; omega
            clear hb
            go_wp2_with fail
            go_ret2
            exact ⟨rfl, hbb⟩

theorem infoNum1 : (Try.prog.info? 118).map (fun i => (i.zero, i.size, i.bytes)) = some (some (.int .u16 0), 1, 2) := by kernel_rfl

theorem numbers1_no {w : World} (q : Option Addr) (n cap : Nat) (p : Int) (u : Value) (a m : Int) (hn : n ≤ 9223372036854775807) (hb : numB n a m 2 = false) (ha : -9223372036854775808 ≤ a) (hm : -9223372036854775808 ≤ m) (ha2 : a ≤ 9223372036854775807) :
    Calls Try.prog 68 #[.agg #[.slice q n cap, .int .i64 p, u], .int .i64 a, .int .i64 m] w fun e w' => e = .returned (.tuple #[.slice none 0 0, .int .i64 2]) ∧ Below w.heap.size w w' := by
  have hbb := below_alloc w (.cells #[.slice q n cap, .int .i64 p, u] 51)
  go_enter Try.func68, Try.ntmps68
  go_wp2_with fail
  go_loop [8, 9] (fun wd x => ∃ j : Nat, j ≤ 2 ∧ wd = .int .i64 j ∧ x = .int .u16 (256 ^ (2 - j) - 1 : Nat)) (fun wd _ => 2 - (intOf wd).toNat)
  case atStart => exact ⟨0, by omega, rfl, rfl⟩
  case round =>
    obtain ⟨j, hj, rfl, rfl⟩ := hrel
    obtain rfl | rfl | rfl : j = 0 ∨ j = 1 ∨ j = 2 := by omega
    · go_wp2_with fail
      go_round
      case rel => exact ⟨1, by omega, by go_num, by go_num⟩
      case measure => simp [intOf]
    · go_wp2_with fail
      go_round
      case rel => exact ⟨2, by omega, by go_num, by go_num⟩
      case measure => simp [intOf]
    · by_cases q1 : a < 0
      · go_wp2_with fail
        go_ret2
        exact ⟨rfl, hbb⟩
      · by_cases q2 : m < 0
        · go_wp2_with fail
          go_ret2
          exact ⟨rfl, hbb⟩
        · by_cases q3 : (n : Int) < a
          · go_wp2_with fail
            go_ret2
            exact ⟨rfl, hbb⟩
          · have q4 : ¬ (a + m * 2 ≤ n) := by
              intro h4; simp [numB] at hb; omega
            clear hb
            go_wp2_with fail
            go_ret2
            exact ⟨rfl, hbb⟩

theorem infoNum2 : (Try.prog.info? 120).map (fun i => (i.zero, i.size, i.bytes)) = some (some (.int .u32 0), 1, 4) := by kernel_rfl

theorem numbers2_no {w : World} (q : Option Addr) (n cap : Nat) (p : Int) (u : Value) (a m : Int) (hn : n ≤ 9223372036854775807) (hb : numB n a m 4 = false) (ha : -9223372036854775808 ≤ a) (hm : -9223372036854775808 ≤ m) (ha2 : a ≤ 9223372036854775807) :
    Calls Try.prog 69 #[.agg #[.slice q n cap, .int .i64 p, u], .int .i64 a, .int .i64 m] w fun e w' => e = .returned (.tuple #[.slice none 0 0, .int .i64 2]) ∧ Below w.heap.size w w' := by
  have hbb := below_alloc w (.cells #[.slice q n cap, .int .i64 p, u] 51)
  go_enter Try.func69, Try.ntmps69
  go_wp2_with fail
  go_loop [8, 9] (fun wd x => ∃ j : Nat, j ≤ 4 ∧ wd = .int .i64 j ∧ x = .int .u32 (256 ^ (4 - j) - 1 : Nat)) (fun wd _ => 4 - (intOf wd).toNat)
  case atStart => exact ⟨0, by omega, rfl, rfl⟩
  case round =>
    obtain ⟨j, hj, rfl, rfl⟩ := hrel
    obtain rfl | rfl | rfl | rfl | rfl : j = 0 ∨ j = 1 ∨ j = 2 ∨ j = 3 ∨ j = 4 := by omega
    · go_wp2_with fail
      go_round
      case rel => exact ⟨1, by omega, by go_num, by go_num⟩
      case measure => simp [intOf]
    · go_wp2_with fail
      go_round
      case rel => exact ⟨2, by omega, by go_num, by go_num⟩
      case measure => simp [intOf]
    · go_wp2_with fail
      go_round
      case rel => exact ⟨3, by omega, by go_num, by go_num⟩
      case measure => simp [intOf]
    · go_wp2_with fail
      go_round
      case rel => exact ⟨4, by omega, by go_num, by go_num⟩
      case measure => simp [intOf]
    · by_cases q1 : a < 0
      · go_wp2_with fail
        go_ret2
        exact ⟨rfl, hbb⟩
      · by_cases q2 : m < 0
        · go_wp2_with fail
          go_ret2
          exact ⟨rfl, hbb⟩
        · by_cases q3 : (n : Int) < a
          · go_wp2_with fail
            go_ret2
            exact ⟨rfl, hbb⟩
          · have q4 : ¬ (a + m * 4 ≤ n) := by
              intro h4; simp [numB] at hb; omega
            clear hb
            go_wp2_with fail
            go_ret2
            exact ⟨rfl, hbb⟩

theorem infoNum3 : (Try.prog.info? 34).map (fun i => (i.zero, i.size, i.bytes)) = some (some (.int .u64 0), 1, 8) := by kernel_rfl

theorem numbers3_no {w : World} (q : Option Addr) (n cap : Nat) (p : Int) (u : Value) (a m : Int) (hn : n ≤ 9223372036854775807) (hb : numB n a m 8 = false) (ha : -9223372036854775808 ≤ a) (hm : -9223372036854775808 ≤ m) (ha2 : a ≤ 9223372036854775807) :
    Calls Try.prog 70 #[.agg #[.slice q n cap, .int .i64 p, u], .int .i64 a, .int .i64 m] w fun e w' => e = .returned (.tuple #[.slice none 0 0, .int .i64 2]) ∧ Below w.heap.size w w' := by
  have hbb := below_alloc w (.cells #[.slice q n cap, .int .i64 p, u] 51)
  go_enter Try.func70, Try.ntmps70
  go_wp2_with fail
  go_loop [8, 9] (fun wd x => ∃ j : Nat, j ≤ 8 ∧ wd = .int .i64 j ∧ x = .int .u64 (256 ^ (8 - j) - 1 : Nat)) (fun wd _ => 8 - (intOf wd).toNat)
  case atStart => exact ⟨0, by omega, rfl, rfl⟩
  case round =>
    obtain ⟨j, hj, rfl, rfl⟩ := hrel
    obtain rfl | rfl | rfl | rfl | rfl | rfl | rfl | rfl | rfl : j = 0 ∨ j = 1 ∨ j = 2 ∨ j = 3 ∨ j = 4 ∨ j = 5 ∨ j = 6 ∨ j = 7 ∨ j = 8 := by omega
    · go_wp2_with fail
      go_round
      case rel => exact ⟨1, by omega, by go_num, by go_num⟩
      case measure => simp [intOf]
    · go_wp2_with fail
      go_round
      case rel => exact ⟨2, by omega, by go_num, by go_num⟩
      case measure => simp [intOf]
    · go_wp2_with fail
      go_round
      case rel => exact ⟨3, by omega, by go_num, by go_num⟩
      case measure => simp [intOf]
    · go_wp2_with fail
      go_round
      case rel => exact ⟨4, by omega, by go_num, by go_num⟩
      case measure => simp [intOf]
    · go_wp2_with fail
      go_round
      case rel => exact ⟨5, by omega, by go_num, by go_num⟩
      case measure => simp [intOf]
    · go_wp2_with fail
      go_round
      case rel => exact ⟨6, by omega, by go_num, by go_num⟩
      case measure => simp [intOf]
    · go_wp2_with fail
      go_round
      case rel => exact ⟨7, by omega, by go_num, by go_num⟩
      case measure => simp [intOf]
    · go_wp2_with fail
      go_round
      case rel => exact ⟨8, by omega, by go_num, by go_num⟩
      case measure => simp [intOf]
    · by_cases q1 : a < 0
      · go_wp2_with fail
        go_ret2
        exact ⟨rfl, hbb⟩
      · by_cases q2 : m < 0
        · go_wp2_with fail
          go_ret2
          exact ⟨rfl, hbb⟩
        · by_cases q3 : (n : Int) < a
          · go_wp2_with fail
            go_ret2
            exact ⟨rfl, hbb⟩
          · have q4 : ¬ (a + m * 8 ≤ n) := by
              intro h4; simp [numB] at hb; omega
            clear hb
            go_wp2_with fail
            go_ret2
            exact ⟨rfl, hbb⟩

end Go.Proofs.Ytajaonnpekdklaa.Vr
