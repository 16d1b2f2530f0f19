import Derived.Test.YtkhpgcbjmopkfaaGreatDoorFb
set_option linter.unusedVariables false
set_option maxRecDepth 100000
/-!
  TYPES: just what a kind says; Nullable. No conditions but that kind.says lies as the program lays it.
-/
namespace Go.Fld
open Go Go.RowKit Go.Proofs Go.ChangeShapes Go.WideShapes Go.ChangeAt

/-- What kind.says tells of indices. -/
def SaysAt (w : World) : Prop := ∀ k : Nat, k ≤ 20 → w.cell? ⟨0, k * 4 + 3, none⟩ = some (.bool (decide (3 ≤ k) && decide (k ≤ 10)))
theorem SaysAt.below {w w' : World} (h : SaysAt w) (hb : Below w.heap.size w w') : SaysAt w' := fun k hk => cell_below hb (h k hk)

def fitsV (k wd id ix : Int) (n : Nat) : Bool := (decide (1 ≤ k) && decide (k ≤ 20)) && (wideB k wd && (toldB k id ix && (decide (leastB k ≤ n) && decide (n ≤ mostB k))))
theorem fitsB_eq (f : Fd) : fitsB f = fitsV f.k f.wd f.id f.ix f.kids.length := rfl

theorem ret_bool {a b : Bool} (h : a = b) : Ending.returned (.bool a) = Ending.returned (.bool b) := by rw [h]

theorem fits_none (k wd id ix : Int) (n : Nat) {p : Option Addr} {cap : Nat} (hs : ¬ (1 ≤ k ∧ k ≤ 20)) (w : World) :
    Calls Tryz.prog 48 #[.agg #[.int .i64 k, .int .i64 wd, .int .i64 id, .int .i64 ix, .slice p n cap]] w fun e w' => e = .returned (.bool (fitsV k wd id ix n)) ∧ Below w.heap.size w w' := by
  have hb : (decide (1 ≤ k) && decide (k ≤ 20)) = false := by rw [Bool.eq_false_iff]; simp; omega
  have HE := Lib.hid (show fitsV k wd id ix n = false by unfold fitsV; rw [hb]; rfl)
  have HB := Lib.hid hb
  clear hb
  go_enter Tryz.func48, Tryz.ntmps48
  go_wp2_with fail
  refine (known_calls k _).mono ?_; rintro e w1 ⟨rfl, rfl⟩
  rw [HB.out]
  go_wp2_with fail
  go_ret
  exact ⟨by rw [HE.out]; rfl, (Below.refl _ w).alloc (Nat.le_refl _) _⟩

theorem fits_14 (wd id ix : Int) (n : Nat) {p : Option Addr} {cap : Nat}  (hn : n ≤ 9223372036854775807) (hw : i64B wd) (hi : i64B id) (hx : i64B ix) (w : World) :
    Calls Tryz.prog 48 #[.agg #[.int .i64 14, .int .i64 wd, .int .i64 id, .int .i64 ix, .slice p n cap]] w fun e w' => e = .returned (.bool (fitsV 14 wd id ix n)) ∧ Below w.heap.size w w' := by
  unfold i64B at hw hi hx
  have HB := Lib.hid (show (decide ((1 : Int) ≤ 14) && decide ((14 : Int) ≤ 20)) = true by simp)
  go_enter Tryz.func48, Tryz.ntmps48
  go_wp2_with fail
  refine (known_calls 14 _).mono ?_; rintro e w1 ⟨rfl, rfl⟩
  rw [HB.out]
  go_wp2
  all_goals go_ret
  all_goals refine ⟨ret_bool ?_, (Below.refl _ w).alloc (Nat.le_refl _) _⟩
  all_goals (rw [Bool.eq_iff_iff]; simp [fitsV, wideB, toldB, leastB, mostB]; omega)

theorem fits_15 (wd id ix : Int) (n : Nat) {p : Option Addr} {cap : Nat}  (hn : n ≤ 9223372036854775807) (hw : i64B wd) (hi : i64B id) (hx : i64B ix) (w : World) :
    Calls Tryz.prog 48 #[.agg #[.int .i64 15, .int .i64 wd, .int .i64 id, .int .i64 ix, .slice p n cap]] w fun e w' => e = .returned (.bool (fitsV 15 wd id ix n)) ∧ Below w.heap.size w w' := by
  unfold i64B at hw hi hx
  have HB := Lib.hid (show (decide ((1 : Int) ≤ 15) && decide ((15 : Int) ≤ 20)) = true by simp)
  go_enter Tryz.func48, Tryz.ntmps48
  go_wp2_with fail
  refine (known_calls 15 _).mono ?_; rintro e w1 ⟨rfl, rfl⟩
  rw [HB.out]
  go_wp2
  all_goals go_ret
  all_goals refine ⟨ret_bool ?_, (Below.refl _ w).alloc (Nat.le_refl _) _⟩
  all_goals (rw [Bool.eq_iff_iff]; simp [fitsV, wideB, toldB, leastB, mostB]; omega)

theorem fits_16 (wd id ix : Int) (n : Nat) {p : Option Addr} {cap : Nat}  (hn : n ≤ 9223372036854775807) (hw : i64B wd) (hi : i64B id) (hx : i64B ix) (w : World) :
    Calls Tryz.prog 48 #[.agg #[.int .i64 16, .int .i64 wd, .int .i64 id, .int .i64 ix, .slice p n cap]] w fun e w' => e = .returned (.bool (fitsV 16 wd id ix n)) ∧ Below w.heap.size w w' := by
  unfold i64B at hw hi hx
  have HB := Lib.hid (show (decide ((1 : Int) ≤ 16) && decide ((16 : Int) ≤ 20)) = true by simp)
  go_enter Tryz.func48, Tryz.ntmps48
  go_wp2_with fail
  refine (known_calls 16 _).mono ?_; rintro e w1 ⟨rfl, rfl⟩
  rw [HB.out]
  go_wp2
  all_goals go_ret
  all_goals refine ⟨ret_bool ?_, (Below.refl _ w).alloc (Nat.le_refl _) _⟩
  all_goals (rw [Bool.eq_iff_iff]; simp [fitsV, wideB, toldB, leastB, mostB]; omega)

theorem fits_17 (wd id ix : Int) (n : Nat) {p : Option Addr} {cap : Nat}  (hn : n ≤ 9223372036854775807) (hw : i64B wd) (hi : i64B id) (hx : i64B ix) (w : World) :
    Calls Tryz.prog 48 #[.agg #[.int .i64 17, .int .i64 wd, .int .i64 id, .int .i64 ix, .slice p n cap]] w fun e w' => e = .returned (.bool (fitsV 17 wd id ix n)) ∧ Below w.heap.size w w' := by
  unfold i64B at hw hi hx
  have HB := Lib.hid (show (decide ((1 : Int) ≤ 17) && decide ((17 : Int) ≤ 20)) = true by simp)
  go_enter Tryz.func48, Tryz.ntmps48
  go_wp2_with fail
  refine (known_calls 17 _).mono ?_; rintro e w1 ⟨rfl, rfl⟩
  rw [HB.out]
  go_wp2
  all_goals go_ret
  all_goals refine ⟨ret_bool ?_, (Below.refl _ w).alloc (Nat.le_refl _) _⟩
  all_goals (rw [Bool.eq_iff_iff]; simp [fitsV, wideB, toldB, leastB, mostB]; omega)

theorem fits_18 (wd id ix : Int) (n : Nat) {p : Option Addr} {cap : Nat}  (hn : n ≤ 9223372036854775807) (hw : i64B wd) (hi : i64B id) (hx : i64B ix) (w : World) :
    Calls Tryz.prog 48 #[.agg #[.int .i64 18, .int .i64 wd, .int .i64 id, .int .i64 ix, .slice p n cap]] w fun e w' => e = .returned (.bool (fitsV 18 wd id ix n)) ∧ Below w.heap.size w w' := by
  unfold i64B at hw hi hx
  have HB := Lib.hid (show (decide ((1 : Int) ≤ 18) && decide ((18 : Int) ≤ 20)) = true by simp)
  go_enter Tryz.func48, Tryz.ntmps48
  go_wp2_with fail
  refine (known_calls 18 _).mono ?_; rintro e w1 ⟨rfl, rfl⟩
  rw [HB.out]
  go_wp2
  all_goals go_ret
  all_goals refine ⟨ret_bool ?_, (Below.refl _ w).alloc (Nat.le_refl _) _⟩
  all_goals (rw [Bool.eq_iff_iff]; simp [fitsV, wideB, toldB, leastB, mostB]; omega)

theorem fits_20 (wd id ix : Int) (n : Nat) {p : Option Addr} {cap : Nat}  (hn : n ≤ 9223372036854775807) (hw : i64B wd) (hi : i64B id) (hx : i64B ix) (w : World) :
    Calls Tryz.prog 48 #[.agg #[.int .i64 20, .int .i64 wd, .int .i64 id, .int .i64 ix, .slice p n cap]] w fun e w' => e = .returned (.bool (fitsV 20 wd id ix n)) ∧ Below w.heap.size w w' := by
  unfold i64B at hw hi hx
  have HB := Lib.hid (show (decide ((1 : Int) ≤ 20) && decide ((20 : Int) ≤ 20)) = true by simp)
  go_enter Tryz.func48, Tryz.ntmps48
  go_wp2_with fail
  refine (known_calls 20 _).mono ?_; rintro e w1 ⟨rfl, rfl⟩
  rw [HB.out]
  go_wp2
  all_goals go_ret
  all_goals refine ⟨ret_bool ?_, (Below.refl _ w).alloc (Nat.le_refl _) _⟩
  all_goals (rw [Bool.eq_iff_iff]; simp [fitsV, wideB, toldB, leastB, mostB]; omega)

theorem fits_other (k : Int) (wd id ix : Int) (n : Nat) {p : Option Addr} {cap : Nat} (h1 : 1 ≤ k) (h2 : k ≤ 13) (hn : n ≤ 9223372036854775807) (hw : i64B wd) (hi : i64B id) (hx : i64B ix) (w : World) :
    Calls Tryz.prog 48 #[.agg #[.int .i64 k, .int .i64 wd, .int .i64 id, .int .i64 ix, .slice p n cap]] w fun e w' => e = .returned (.bool (fitsV k wd id ix n)) ∧ Below w.heap.size w w' := by
  unfold i64B at hw hi hx
  have HB := Lib.hid (show (decide ((1 : Int) ≤ k) && decide ((k : Int) ≤ 20)) = true by simp; omega)
  go_enter Tryz.func48, Tryz.ntmps48
  go_wp2_with fail
  refine (known_calls k _).mono ?_; rintro e w1 ⟨rfl, rfl⟩
  rw [HB.out]
  go_wp2
  all_goals go_ret
  all_goals refine ⟨ret_bool ?_, (Below.refl _ w).alloc (Nat.le_refl _) _⟩
  all_goals (have e14 : ¬ k = 14 := by omega)
  all_goals (have e15 : ¬ k = 15 := by omega)
  all_goals (have e16 : ¬ k = 16 := by omega)
  all_goals (have e17 : ¬ k = 17 := by omega)
  all_goals (have e18 : ¬ k = 18 := by omega)
  all_goals (have e19 : ¬ k = 19 := by omega)
  all_goals (have e20 : ¬ k = 20 := by omega)
  all_goals (rw [Bool.eq_iff_iff]; simp [fitsV, wideB, toldB, leastB, mostB, e14, e15, e16, e17, e18, e19, e20]; omega)

theorem fits_19a (wd id ix : Int) (n : Nat) {p : Option Addr} {cap : Nat} (hn : n ≤ 9223372036854775807) (hw : i64B wd) (hi : i64B id) (hx : i64B ix) (w : World) (d : id < 0) :
    Calls Tryz.prog 48 #[.agg #[.int .i64 19, .int .i64 wd, .int .i64 id, .int .i64 ix, .slice p n cap]] w fun e w' => e = .returned (.bool (fitsV 19 wd id ix n)) ∧ Below w.heap.size w w' := by
  unfold i64B at hw hi hx
  have HB := Lib.hid (show (decide ((1 : Int) ≤ 19) && decide ((19 : Int) ≤ 20)) = true by simp)
  by_cases w0 : wd = 0
  · subst w0
    go_enter Tryz.func48, Tryz.ntmps48
    go_wp2_with fail
    refine (known_calls 19 _).mono ?_; rintro e w1 ⟨rfl, rfl⟩
    rw [HB.out]
    go_wp2_with fail
    all_goals go_ret
    all_goals refine ⟨ret_bool ?_, (Below.refl _ w).alloc (Nat.le_refl _) _⟩
    all_goals (rw [Bool.eq_iff_iff]; simp [fitsV, wideB, toldB, leastB, mostB]; omega)
  · have w0' : (wd == 0) = false := by simpa using w0
    go_enter Tryz.func48, Tryz.ntmps48
    go_wp2_with fail
    refine (known_calls 19 _).mono ?_; rintro e w1 ⟨rfl, rfl⟩
    rw [HB.out]
    go_wp2_with fail
    all_goals go_ret
    all_goals refine ⟨ret_bool ?_, (Below.refl _ w).alloc (Nat.le_refl _) _⟩
    all_goals (rw [Bool.eq_iff_iff]; simp [fitsV, wideB, toldB, leastB, mostB]; omega)

theorem fits_19b (wd id ix : Int) (n : Nat) {p : Option Addr} {cap : Nat} (hn : n ≤ 9223372036854775807) (hw : i64B wd) (hi : i64B id) (hx : i64B ix) (w : World) (d : 32 ≤ id) :
    Calls Tryz.prog 48 #[.agg #[.int .i64 19, .int .i64 wd, .int .i64 id, .int .i64 ix, .slice p n cap]] w fun e w' => e = .returned (.bool (fitsV 19 wd id ix n)) ∧ Below w.heap.size w w' := by
  unfold i64B at hw hi hx
  have HB := Lib.hid (show (decide ((1 : Int) ≤ 19) && decide ((19 : Int) ≤ 20)) = true by simp)
  by_cases w0 : wd = 0
  · subst w0
    go_enter Tryz.func48, Tryz.ntmps48
    go_wp2_with fail
    refine (known_calls 19 _).mono ?_; rintro e w1 ⟨rfl, rfl⟩
    rw [HB.out]
    go_wp2_with fail
    all_goals go_ret
    all_goals refine ⟨ret_bool ?_, (Below.refl _ w).alloc (Nat.le_refl _) _⟩
    all_goals (rw [Bool.eq_iff_iff]; simp [fitsV, wideB, toldB, leastB, mostB]; omega)
  · have w0' : (wd == 0) = false := by simpa using w0
    go_enter Tryz.func48, Tryz.ntmps48
    go_wp2_with fail
    refine (known_calls 19 _).mono ?_; rintro e w1 ⟨rfl, rfl⟩
    rw [HB.out]
    go_wp2_with fail
    all_goals go_ret
    all_goals refine ⟨ret_bool ?_, (Below.refl _ w).alloc (Nat.le_refl _) _⟩
    all_goals (rw [Bool.eq_iff_iff]; simp [fitsV, wideB, toldB, leastB, mostB]; omega)

theorem fits_19c (wd id ix : Int) (n : Nat) {p : Option Addr} {cap : Nat} (hn : n ≤ 9223372036854775807) (hw : i64B wd) (hi : i64B id) (hx : i64B ix) (w : World) (d1 : 0 ≤ id) (d2 : id < 32) (hix : ¬ (1 ≤ ix ∧ ix ≤ 20)) :
    Calls Tryz.prog 48 #[.agg #[.int .i64 19, .int .i64 wd, .int .i64 id, .int .i64 ix, .slice p n cap]] w fun e w' => e = .returned (.bool (fitsV 19 wd id ix n)) ∧ Below w.heap.size w w' := by
  unfold i64B at hw hi hx
  have HB := Lib.hid (show (decide ((1 : Int) ≤ 19) && decide ((19 : Int) ≤ 20)) = true by simp)
  have HX := Lib.hid (show (decide (1 ≤ ix) && decide (ix ≤ 20)) = false by rw [Bool.eq_false_iff]; simp; omega)
  have HI := Lib.hid hix
  clear hix
  by_cases w0 : wd = 0
  · subst w0
    go_enter Tryz.func48, Tryz.ntmps48
    go_wp2_with fail
    refine (known_calls 19 _).mono ?_; rintro e w1 ⟨rfl, rfl⟩
    rw [HB.out]
    go_wp2_with fail
    all_goals (refine (known_calls ix _).mono ?_; rintro e w1 ⟨rfl, rfl⟩; rw [HX.out]; go_wp2_with fail)
    all_goals go_ret
    all_goals refine ⟨ret_bool ?_, (Below.refl _ w).alloc (Nat.le_refl _) _⟩
    all_goals (have hix := HI.out; rw [Bool.eq_iff_iff]; simp [fitsV, wideB, toldB, leastB, mostB]; omega)
  · have w0' : (wd == 0) = false := by simpa using w0
    go_enter Tryz.func48, Tryz.ntmps48
    go_wp2_with fail
    refine (known_calls 19 _).mono ?_; rintro e w1 ⟨rfl, rfl⟩
    rw [HB.out]
    go_wp2_with fail
    all_goals (refine (known_calls ix _).mono ?_; rintro e w1 ⟨rfl, rfl⟩; rw [HX.out]; go_wp2_with fail)
    all_goals go_ret
    all_goals refine ⟨ret_bool ?_, (Below.refl _ w).alloc (Nat.le_refl _) _⟩
    all_goals (have hix := HI.out; rw [Bool.eq_iff_iff]; simp [fitsV, wideB, toldB, leastB, mostB]; omega)

theorem fits_19d (wd id : Int) (m : Nat) (n : Nat) {p : Option Addr} {cap : Nat} (hn : n ≤ 9223372036854775807) (hw : i64B wd) (hi : i64B id) (w : World) (hS : SaysAt w) (d1 : 0 ≤ id) (d2 : id < 32) (x1 : 1 ≤ m) (x2 : m ≤ 20) (h1 : 3 ≤ m) (h2 : m ≤ 10) :
    Calls Tryz.prog 48 #[.agg #[.int .i64 19, .int .i64 wd, .int .i64 id, .int .i64 (m : Int), .slice p n cap]] w fun e w' => e = .returned (.bool (fitsV 19 wd id m n)) ∧ Below w.heap.size w w' := by
  unfold i64B at hw hi
  have HB := Lib.hid (show (decide ((1 : Int) ≤ 19) && decide ((19 : Int) ≤ 20)) = true by simp)
  have HX := Lib.hid (show (decide (1 ≤ (m : Int)) && decide ((m : Int) ≤ 20)) = true by simp; omega)
  have hc : w.cell? ⟨0, m * 4 + 3, none⟩ = some (.bool true) := by rw [hS m (by omega)]; congr 2; rw [Bool.eq_iff_iff]; simp; omega
  have hlt : 0 < w.heap.size := World.block_lt_of_cell? w _ hc
  by_cases w0 : wd = 0
  · subst w0
    go_enter Tryz.func48, Tryz.ntmps48
    go_wp2_with fail
    refine (known_calls 19 _).mono ?_; rintro e w1 ⟨rfl, rfl⟩
    rw [HB.out]
    go_wp2_with fail
    all_goals (refine (known_calls m _).mono ?_; rintro e w1 ⟨rfl, rfl⟩; rw [HX.out]; go_wp2)
    all_goals go_ret
    all_goals refine ⟨ret_bool ?_, (Below.refl _ w).alloc (Nat.le_refl _) _⟩
    all_goals (rw [Bool.eq_iff_iff]; simp [fitsV, wideB, toldB, leastB, mostB]; omega)
  · have w0' : (wd == 0) = false := by simpa using w0
    go_enter Tryz.func48, Tryz.ntmps48
    go_wp2_with fail
    refine (known_calls 19 _).mono ?_; rintro e w1 ⟨rfl, rfl⟩
    rw [HB.out]
    go_wp2_with fail
    all_goals (refine (known_calls m _).mono ?_; rintro e w1 ⟨rfl, rfl⟩; rw [HX.out]; go_wp2)
    all_goals go_ret
    all_goals refine ⟨ret_bool ?_, (Below.refl _ w).alloc (Nat.le_refl _) _⟩
    all_goals (rw [Bool.eq_iff_iff]; simp [fitsV, wideB, toldB, leastB, mostB]; omega)

theorem fits_19e (wd id : Int) (m : Nat) (n : Nat) {p : Option Addr} {cap : Nat} (hn : n ≤ 9223372036854775807) (hw : i64B wd) (hi : i64B id) (w : World) (hS : SaysAt w) (d1 : 0 ≤ id) (d2 : id < 32) (x1 : 1 ≤ m) (x2 : m ≤ 20) (h0 : ¬ (3 ≤ m ∧ m ≤ 10)) :
    Calls Tryz.prog 48 #[.agg #[.int .i64 19, .int .i64 wd, .int .i64 id, .int .i64 (m : Int), .slice p n cap]] w fun e w' => e = .returned (.bool (fitsV 19 wd id m n)) ∧ Below w.heap.size w w' := by
  unfold i64B at hw hi
  have HB := Lib.hid (show (decide ((1 : Int) ≤ 19) && decide ((19 : Int) ≤ 20)) = true by simp)
  have HX := Lib.hid (show (decide (1 ≤ (m : Int)) && decide ((m : Int) ≤ 20)) = true by simp; omega)
  have hc : w.cell? ⟨0, m * 4 + 3, none⟩ = some (.bool false) := by rw [hS m (by omega)]; congr 2; rw [Bool.eq_false_iff]; simp; omega
  have hlt : 0 < w.heap.size := World.block_lt_of_cell? w _ hc
  have HI := Lib.hid h0
  clear h0
  by_cases w0 : wd = 0
  · subst w0
    go_enter Tryz.func48, Tryz.ntmps48
    go_wp2_with fail
    refine (known_calls 19 _).mono ?_; rintro e w1 ⟨rfl, rfl⟩
    rw [HB.out]
    go_wp2_with fail
    all_goals (refine (known_calls m _).mono ?_; rintro e w1 ⟨rfl, rfl⟩; rw [HX.out]; go_wp2)
    all_goals go_ret
    all_goals refine ⟨ret_bool ?_, (Below.refl _ w).alloc (Nat.le_refl _) _⟩
    all_goals (have h0 := HI.out; rw [Bool.eq_iff_iff]; simp [fitsV, wideB, toldB, leastB, mostB]; omega)
  · have w0' : (wd == 0) = false := by simpa using w0
    go_enter Tryz.func48, Tryz.ntmps48
    go_wp2_with fail
    refine (known_calls 19 _).mono ?_; rintro e w1 ⟨rfl, rfl⟩
    rw [HB.out]
    go_wp2_with fail
    all_goals (refine (known_calls m _).mono ?_; rintro e w1 ⟨rfl, rfl⟩; rw [HX.out]; go_wp2)
    all_goals go_ret
    all_goals refine ⟨ret_bool ?_, (Below.refl _ w).alloc (Nat.le_refl _) _⟩
    all_goals (have h0 := HI.out; rw [Bool.eq_iff_iff]; simp [fitsV, wideB, toldB, leastB, mostB]; omega)

theorem fits_19 (wd id ix : Int) (n : Nat) {p : Option Addr} {cap : Nat} (hn : n ≤ 9223372036854775807) (hw : i64B wd) (hi : i64B id) (hx : i64B ix) (w : World) (hS : SaysAt w) :
    Calls Tryz.prog 48 #[.agg #[.int .i64 19, .int .i64 wd, .int .i64 id, .int .i64 ix, .slice p n cap]] w fun e w' => e = .returned (.bool (fitsV 19 wd id ix n)) ∧ Below w.heap.size w w' := by
  by_cases d1 : 0 ≤ id
  · by_cases d2 : id < 32
    · by_cases hix : 1 ≤ ix ∧ ix ≤ 20
      · obtain ⟨m, rfl⟩ := Int.eq_ofNat_of_zero_le (show 0 ≤ ix by omega)
        by_cases h0 : 3 ≤ m ∧ m ≤ 10
        · exact fits_19d wd id m n hn hw hi w hS d1 d2 (by omega) (by omega) h0.1 h0.2
        · exact fits_19e wd id m n hn hw hi w hS d1 d2 (by omega) (by omega) h0
      · exact fits_19c wd id ix n hn hw hi hx w d1 d2 hix
    · exact fits_19b wd id ix n hn hw hi hx w (by omega)
  · exact fits_19a wd id ix n hn hw hi hx w (by omega)

/-- Is a type just what its kind says? -/
theorem fits_calls {w : World} {f : Fd} {cs : List Value} (h : FdAt w f cs) (hS : SaysAt w) :
    ∃ p cap, cs = [.string f.nm, .bool f.nl, .int .i64 f.k, .int .i64 f.wd, .int .i64 f.id, .int .i64 f.ix, .slice p f.kids.length cap] ∧ FdsAt w f.kids (.slice p f.kids.length cap) ∧
    Calls Tryz.prog 48 #[.agg #[.int .i64 f.k, .int .i64 f.wd, .int .i64 f.id, .int .i64 f.ix, .slice p f.kids.length cap]] w fun e w' => e = .returned (.bool (fitsB f)) ∧ Below w.heap.size w w' := by
  obtain ⟨p, cap, h1, h2, h0, h3, h4, h5, h6⟩ := h.shape
  refine ⟨p, cap, h1, h2, ?_⟩
  obtain ⟨_, _, e, hl, hm, _⟩ := h2
  cases e
  unfold maxLen at hm
  have hn : f.kids.length ≤ 9223372036854775807 := by omega
  rw [fitsB_eq]
  by_cases hs : 1 ≤ f.k ∧ f.k ≤ 20
  · rcases (show f.k ≤ 13 ∨ f.k = 14 ∨ f.k = 15 ∨ f.k = 16 ∨ f.k = 17 ∨ f.k = 18 ∨ f.k = 19 ∨ f.k = 20 by omega) with h | h | h | h | h | h | h | h
    · exact fits_other _ _ _ _ _ hs.1 h hn h4 h5 h6 w
    · rw [h]; exact fits_14 _ _ _ _ hn h4 h5 h6 w
    · rw [h]; exact fits_15 _ _ _ _ hn h4 h5 h6 w
    · rw [h]; exact fits_16 _ _ _ _ hn h4 h5 h6 w
    · rw [h]; exact fits_17 _ _ _ _ hn h4 h5 h6 w
    · rw [h]; exact fits_18 _ _ _ _ hn h4 h5 h6 w
    · rw [h]; exact fits_19 _ _ _ _ hn h4 h5 h6 w hS
    · rw [h]; exact fits_20 _ _ _ _ hn h4 h5 h6 w
  · exact fits_none _ _ _ _ _ hs w

end Go.Fld
