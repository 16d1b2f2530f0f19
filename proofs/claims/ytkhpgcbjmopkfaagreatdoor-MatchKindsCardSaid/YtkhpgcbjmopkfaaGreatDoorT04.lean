import Derived.Test.YtkhpgcbjmopkfaaGreatDoorT00
import Derived.Test.YtkhpgcbjmopkfaaGreatDoorT03
import Derived.OpenShut
import Derived.WalkSpells
import Derived.Deep.QuietTactic
import Derived.BigQuiet
import Derived.Lib.Strings
import Derived.Test.YtkhpgcbjmopkfaaGreatDoorRows
set_option linter.unusedVariables false
set_option linter.unusedSimpArgs false
set_option linter.unnecessarySimpa false
set_option maxRecDepth 100000
namespace Go.Fld
open Go Go.RowKit Go.Proofs Go.ChangeShapes Go.WideShapes Go.ChangeAt
theorem letter_calls (c : Nat) (hc : c < 256) (w : World) : Calls Tryz.prog 55 #[.int .u8 (c : Int)] w fun e w' => e = .returned (.bool (letterB c)) ∧ w' = w := by
 go_enter Tryz.func55, Tryz.ntmps55
 go_wp2
 all_goals go_ret
 all_goals (refine ⟨congrArg (fun b => Ending.returned (.bool b)) ?_, rfl⟩; rw [Bool.eq_iff_iff]; simp [letterB]; omega)
theorem known_calls (k : Int) (w : World) : Calls Tryz.prog 57 #[.int .i64 k] w fun e w' => e = .returned (.bool (decide (1 ≤ k) && decide (k ≤ 20))) ∧ w' = w := by
 go_enter Tryz.func57, Tryz.ntmps57
 go_wp2
 all_goals go_ret
 all_goals (refine ⟨congrArg (fun b => Ending.returned (.bool b)) ?_, rfl⟩; rw [Bool.eq_iff_iff]; simp; omega)
theorem okFrom_take {s : List UInt8} : ∀ {i : Nat}, okFrom i s = true → ∀ k (hk : k < s.length), okAt (i + k) s[k] = true := by
 induction s with
 | nil => intro i h k hk; exact absurd hk (Nat.not_lt_zero _)
 | cons c r ih =>
  intro i h k hk
  simp only [okFrom, Bool.and_eq_true] at h
  cases k with
  | zero => simpa using h.1
  | succ k =>
   have := ih h.2 k (by simpa using hk)
   simpa [Nat.add_assoc, Nat.add_comm 1 k] using this
theorem okFrom_all {s : List UInt8} : ∀ {i : Nat}, (∀ k (hk : k < s.length), okAt (i + k) s[k] = true) → okFrom i s = true := by
 induction s with
 | nil => intro i h; rfl
 | cons c r ih =>
  intro i h
  simp only [okFrom, Bool.and_eq_true]
  refine ⟨h 0 (by simp), ih (fun k hk => ?_)⟩
  have := h (k + 1) (by simpa using hk)
  simpa [Nat.add_assoc, Nat.add_comm 1 k] using this
theorem nameB_bad {s : ByteArray} {k : Nat} (hk : k < s.data.toList.length) (h : okAt k s.data.toList[k] = false) : nameB s = false := by
 unfold nameB
 cases ho : okFrom 0 s.data.toList with
 | false => rfl
 | true =>
  have := okFrom_take ho k hk
  rw [Nat.zero_add, h] at this
  cases this
theorem nameB_good {s : ByteArray} (h : ∀ k (hk : k < s.data.toList.length), okAt k s.data.toList[k] = true) : nameB s = (decide (0 < s.size) && decide (s.size ≤ 48)) := by
 unfold nameB
 rw [okFrom_all (i := 0) (fun k hk => by rw [Nat.zero_add]; exact h k hk)]
 rfl
theorem named_calls (s : ByteArray) (hs : s.size ≤ maxLen) (w : World) : Calls Tryz.prog 45 #[.string s] w fun e w' => e = .returned (.bool (nameB s)) ∧ w' = w := by
 unfold maxLen at hs
 have hsz : s.data.toList.length = s.size := Array.length_toList
 go_enter Tryz.func45, Tryz.ntmps45
 go_wp2_with fail
 go_loop [7] (fun i => ∃ k : Nat, k ≤ s.size ∧ i = .int .i64 k ∧ Hid (∀ j (hj : j < s.data.toList.length), j < k → okAt j s.data.toList[j] = true)) (fun i => s.size - (intOf i).toNat)
 case atStart => exact ⟨0, by omega, rfl, zh (fun j hj h => absurd h (Nat.not_lt_zero _))⟩
 case round =>
  obtain ⟨k, hk, rfl, H⟩ := hrel
  by_cases hlt : k < s.size
  ·go_wp2_with fail
   have hg : s.data.toList[k]'(by rw [hsz]; exact hlt) = s[k] := by rw [Array.getElem_toList]; rfl
   have G := zh hg
   clear hg
   generalize s[k] = c at G ⊢
   have hc := c.toNat_lt
   refine (letter_calls c.toNat (by omega) w).mono ?_; rintro e w1 ⟨rfl, rfl⟩
   have bad : ∀ b, okAt k c = b → b = false → nameB s = false := fun b h1 h2 => nameB_bad (k := k) (by rw [hsz]; exact hlt) (by rw [G.o, h1, h2])
   have Bad := zh bad
   have next : okAt k c = true → ∀ j (hj : j < s.data.toList.length), j < k + 1 → okAt j s.data.toList[j] = true := fun hok j hj hjk => by
    by_cases e : j = k
    ·subst e; rw [G.o]; exact hok
    ·exact H.o j hj (by omega)
   have Next := zh next
   clear bad next
   cases hL : letterB c.toNat with
   | false =>
    have E := zh (Bad.o _ (by simp [okAt, hL]) rfl)
    clear hL
    go_wp2_with fail
    go_ret
    exact ⟨by rw [E.o]; rfl, rfl⟩
   | true =>
    by_cases h0 : k = 0
    ·subst h0
     by_cases hd : 48 ≤ c.toNat ∧ c.toNat ≤ 57
     ·have E := zh (Bad.o _ (by simp [okAt, hL, hd]) rfl)
      obtain ⟨hd1, hd2⟩ := hd
      clear hL
      go_wp2_with fail
      go_ret
      exact ⟨by rw [E.o]; rfl, rfl⟩
     ·have E := zh (Next.o (by simp [okAt, hL]; omega))
      by_cases hd1 : 48 ≤ c.toNat
      ·have hd2 : ¬ c.toNat ≤ 57 := fun h => hd ⟨hd1, h⟩
       clear hL hd
       go_wp2_with fail
       go_round
       case rel => exact ⟨1, by omega, by go_num, E⟩
       case measure => simp [intOf]; omega
      ·clear hL hd
       go_wp2_with fail
       go_round
       case rel => exact ⟨1, by omega, by go_num, E⟩
       case measure => simp [intOf]; omega
    ·have E := zh (Next.o (by simp [okAt, hL, h0]))
     clear hL
     go_wp2_with fail
     go_round
     case rel => exact ⟨k + 1, by omega, by go_num, E⟩
     case measure => simp [intOf]; omega
  ·have hg := nameB_good (s := s) (fun j hj => H.o j hj (by rw [hsz] at hj; omega))
   have G := zh hg
   clear hg
   have hemp : s.toList.isEmpty = decide (s.size = 0) := by
    rw [Lib.toList_data, Bool.eq_iff_iff, List.isEmpty_iff_length_eq_zero, hsz]
    simp
   by_cases h0 : s.size = 0
   ·have hE : s.toList.isEmpty = true := by rw [hemp]; simp [h0]
    clear hemp
    go_wp2_with fail
    go_ret
    refine ⟨congrArg (fun b => Ending.returned (.bool b)) ?_, rfl⟩
    rw [G.o, h0]
    rfl
   ·have hE : s.toList.isEmpty = false := by rw [hemp]; simp [h0]
    clear hemp
    go_wp2_with fail
    go_ret
    refine ⟨congrArg (fun b => Ending.returned (.bool b)) ?_, rfl⟩
    rw [G.o]
    rw [Bool.eq_iff_iff]; simp; omega
def SaysAt (w : World) : Prop := ∀ k : Nat, k ≤ 20 → w.cell? ⟨0, k * 4 + 3, none⟩ = some (.bool (decide (3 ≤ k) && decide (k ≤ 10)))
theorem SaysAt.below {w w' : World} (h : SaysAt w) (hb : Below w.heap.size w w') : SaysAt w' := fun k hk => cell_below hb (h k hk)
def fitsV (k wd id ix : Int) (n : Nat) : Bool := (decide (1 ≤ k) && decide (k ≤ 20)) && (wideB k wd && (toldB k id ix && (decide (leastB k ≤ n) && decide (n ≤ mostB k))))
theorem fitsB_eq (f : Fd) : fitsB f = fitsV f.k f.wd f.id f.ix f.kids.length := rfl
theorem ret_bool {a b : Bool} (h : a = b) : Ending.returned (.bool a) = Ending.returned (.bool b) := by rw [h]
theorem fits_none (k wd id ix : Int) (n : Nat) {p : Option Addr} {cap : Nat} (hs : ¬ (1 ≤ k ∧ k ≤ 20)) (w : World) :
  Calls Tryz.prog 48 #[.agg #[.int .i64 k, .int .i64 wd, .int .i64 id, .int .i64 ix, .slice p n cap]] w fun e w' => e = .returned (.bool (fitsV k wd id ix n)) ∧ Below w.heap.size w w' := by
 have hb : (decide (1 ≤ k) && decide (k ≤ 20)) = false := by rw [Bool.eq_false_iff]; simp; omega
 have HE := zh (show fitsV k wd id ix n = false by unfold fitsV; rw [hb]; rfl)
 have HB := zh hb
 clear hb
 go_enter Tryz.func48, Tryz.ntmps48
 go_wp2_with fail
 refine (known_calls k _).mono ?_; rintro e w1 ⟨rfl, rfl⟩
 rw [HB.o]
 go_wp2_with fail
 go_ret
 exact ⟨by rw [HE.o]; rfl, (Below.refl _ w).alloc (Nat.le_refl _) _⟩
theorem fits_14 (wd id ix : Int) (n : Nat) {p : Option Addr} {cap : Nat}  (hn : n ≤ 9223372036854775807) (hw : i64B wd) (hi : i64B id) (hx : i64B ix) (w : World) :
  Calls Tryz.prog 48 #[.agg #[.int .i64 14, .int .i64 wd, .int .i64 id, .int .i64 ix, .slice p n cap]] w fun e w' => e = .returned (.bool (fitsV 14 wd id ix n)) ∧ Below w.heap.size w w' := by
 unfold i64B at hw hi hx
 have HB := zh (show (decide ((1 : Int) ≤ 14) && decide ((14 : Int) ≤ 20)) = true by simp)
 go_enter Tryz.func48, Tryz.ntmps48
 go_wp2_with fail
 refine (known_calls 14 _).mono ?_; rintro e w1 ⟨rfl, rfl⟩
 rw [HB.o]
 go_wp2
 all_goals go_ret
 all_goals refine ⟨ret_bool ?_, (Below.refl _ w).alloc (Nat.le_refl _) _⟩
 all_goals (rw [Bool.eq_iff_iff]; simp [fitsV, wideB, toldB, leastB, mostB]; omega)
theorem fits_15 (wd id ix : Int) (n : Nat) {p : Option Addr} {cap : Nat}  (hn : n ≤ 9223372036854775807) (hw : i64B wd) (hi : i64B id) (hx : i64B ix) (w : World) :
  Calls Tryz.prog 48 #[.agg #[.int .i64 15, .int .i64 wd, .int .i64 id, .int .i64 ix, .slice p n cap]] w fun e w' => e = .returned (.bool (fitsV 15 wd id ix n)) ∧ Below w.heap.size w w' := by
 unfold i64B at hw hi hx
 have HB := zh (show (decide ((1 : Int) ≤ 15) && decide ((15 : Int) ≤ 20)) = true by simp)
 go_enter Tryz.func48, Tryz.ntmps48
 go_wp2_with fail
 refine (known_calls 15 _).mono ?_; rintro e w1 ⟨rfl, rfl⟩
 rw [HB.o]
 go_wp2
 all_goals go_ret
 all_goals refine ⟨ret_bool ?_, (Below.refl _ w).alloc (Nat.le_refl _) _⟩
 all_goals (rw [Bool.eq_iff_iff]; simp [fitsV, wideB, toldB, leastB, mostB]; omega)
theorem fits_16 (wd id ix : Int) (n : Nat) {p : Option Addr} {cap : Nat}  (hn : n ≤ 9223372036854775807) (hw : i64B wd) (hi : i64B id) (hx : i64B ix) (w : World) :
  Calls Tryz.prog 48 #[.agg #[.int .i64 16, .int .i64 wd, .int .i64 id, .int .i64 ix, .slice p n cap]] w fun e w' => e = .returned (.bool (fitsV 16 wd id ix n)) ∧ Below w.heap.size w w' := by
 unfold i64B at hw hi hx
 have HB := zh (show (decide ((1 : Int) ≤ 16) && decide ((16 : Int) ≤ 20)) = true by simp)
 go_enter Tryz.func48, Tryz.ntmps48
 go_wp2_with fail
 refine (known_calls 16 _).mono ?_; rintro e w1 ⟨rfl, rfl⟩
 rw [HB.o]
 go_wp2
 all_goals go_ret
 all_goals refine ⟨ret_bool ?_, (Below.refl _ w).alloc (Nat.le_refl _) _⟩
 all_goals (rw [Bool.eq_iff_iff]; simp [fitsV, wideB, toldB, leastB, mostB]; omega)
theorem fits_17 (wd id ix : Int) (n : Nat) {p : Option Addr} {cap : Nat}  (hn : n ≤ 9223372036854775807) (hw : i64B wd) (hi : i64B id) (hx : i64B ix) (w : World) :
  Calls Tryz.prog 48 #[.agg #[.int .i64 17, .int .i64 wd, .int .i64 id, .int .i64 ix, .slice p n cap]] w fun e w' => e = .returned (.bool (fitsV 17 wd id ix n)) ∧ Below w.heap.size w w' := by
 unfold i64B at hw hi hx
 have HB := zh (show (decide ((1 : Int) ≤ 17) && decide ((17 : Int) ≤ 20)) = true by simp)
 go_enter Tryz.func48, Tryz.ntmps48
 go_wp2_with fail
 refine (known_calls 17 _).mono ?_; rintro e w1 ⟨rfl, rfl⟩
 rw [HB.o]
 go_wp2
 all_goals go_ret
 all_goals refine ⟨ret_bool ?_, (Below.refl _ w).alloc (Nat.le_refl _) _⟩
 all_goals (rw [Bool.eq_iff_iff]; simp [fitsV, wideB, toldB, leastB, mostB]; omega)
theorem fits_18 (wd id ix : Int) (n : Nat) {p : Option Addr} {cap : Nat}  (hn : n ≤ 9223372036854775807) (hw : i64B wd) (hi : i64B id) (hx : i64B ix) (w : World) :
  Calls Tryz.prog 48 #[.agg #[.int .i64 18, .int .i64 wd, .int .i64 id, .int .i64 ix, .slice p n cap]] w fun e w' => e = .returned (.bool (fitsV 18 wd id ix n)) ∧ Below w.heap.size w w' := by
 unfold i64B at hw hi hx
 have HB := zh (show (decide ((1 : Int) ≤ 18) && decide ((18 : Int) ≤ 20)) = true by simp)
 go_enter Tryz.func48, Tryz.ntmps48
 go_wp2_with fail
 refine (known_calls 18 _).mono ?_; rintro e w1 ⟨rfl, rfl⟩
 rw [HB.o]
 go_wp2
 all_goals go_ret
 all_goals refine ⟨ret_bool ?_, (Below.refl _ w).alloc (Nat.le_refl _) _⟩
 all_goals (rw [Bool.eq_iff_iff]; simp [fitsV, wideB, toldB, leastB, mostB]; omega)
theorem fits_20 (wd id ix : Int) (n : Nat) {p : Option Addr} {cap : Nat}  (hn : n ≤ 9223372036854775807) (hw : i64B wd) (hi : i64B id) (hx : i64B ix) (w : World) :
  Calls Tryz.prog 48 #[.agg #[.int .i64 20, .int .i64 wd, .int .i64 id, .int .i64 ix, .slice p n cap]] w fun e w' => e = .returned (.bool (fitsV 20 wd id ix n)) ∧ Below w.heap.size w w' := by
 unfold i64B at hw hi hx
 have HB := zh (show (decide ((1 : Int) ≤ 20) && decide ((20 : Int) ≤ 20)) = true by simp)
 go_enter Tryz.func48, Tryz.ntmps48
 go_wp2_with fail
 refine (known_calls 20 _).mono ?_; rintro e w1 ⟨rfl, rfl⟩
 rw [HB.o]
 go_wp2
 all_goals go_ret
 all_goals refine ⟨ret_bool ?_, (Below.refl _ w).alloc (Nat.le_refl _) _⟩
 all_goals (rw [Bool.eq_iff_iff]; simp [fitsV, wideB, toldB, leastB, mostB]; omega)
theorem fits_other (k : Int) (wd id ix : Int) (n : Nat) {p : Option Addr} {cap : Nat} (h1 : 1 ≤ k) (h2 : k ≤ 13) (hn : n ≤ 9223372036854775807) (hw : i64B wd) (hi : i64B id) (hx : i64B ix) (w : World) :
  Calls Tryz.prog 48 #[.agg #[.int .i64 k, .int .i64 wd, .int .i64 id, .int .i64 ix, .slice p n cap]] w fun e w' => e = .returned (.bool (fitsV k wd id ix n)) ∧ Below w.heap.size w w' := by
 unfold i64B at hw hi hx
 have HB := zh (show (decide ((1 : Int) ≤ k) && decide ((k : Int) ≤ 20)) = true by simp; omega)
 go_enter Tryz.func48, Tryz.ntmps48
 go_wp2_with fail
 refine (known_calls k _).mono ?_; rintro e w1 ⟨rfl, rfl⟩
 rw [HB.o]
 go_wp2
 all_goals go_ret
 all_goals refine ⟨ret_bool ?_, (Below.refl _ w).alloc (Nat.le_refl _) _⟩
 all_goals (have e14 : ¬ k = 14 := by omega)
 all_goals (have e15 : ¬ k = 15 := by omega)
 all_goals (have e16 : ¬ k = 16 := by omega)
 all_goals (have e17 : ¬ k = 17 := by omega)
 all_goals (have e18 : ¬ k = 18 := by omega)
 all_goals (have e19 : ¬ k = 19 := by omega)
 all_goals (have e20 : ¬ k = 20 := by omega)
 all_goals (rw [Bool.eq_iff_iff]; simp [fitsV, wideB, toldB, leastB, mostB, e14, e15, e16, e17, e18, e19, e20]; omega)
theorem fits_19a (wd id ix : Int) (n : Nat) {p : Option Addr} {cap : Nat} (hn : n ≤ 9223372036854775807) (hw : i64B wd) (hi : i64B id) (hx : i64B ix) (w : World) (d : id < 0) :
  Calls Tryz.prog 48 #[.agg #[.int .i64 19, .int .i64 wd, .int .i64 id, .int .i64 ix, .slice p n cap]] w fun e w' => e = .returned (.bool (fitsV 19 wd id ix n)) ∧ Below w.heap.size w w' := by
 unfold i64B at hw hi hx
 have HB := zh (show (decide ((1 : Int) ≤ 19) && decide ((19 : Int) ≤ 20)) = true by simp)
 by_cases w0 : wd = 0
 ·subst w0
  go_enter Tryz.func48, Tryz.ntmps48
  go_wp2_with fail
  refine (known_calls 19 _).mono ?_; rintro e w1 ⟨rfl, rfl⟩
  rw [HB.o]
  go_wp2_with fail
  all_goals go_ret
  all_goals refine ⟨ret_bool ?_, (Below.refl _ w).alloc (Nat.le_refl _) _⟩
  all_goals (rw [Bool.eq_iff_iff]; simp [fitsV, wideB, toldB, leastB, mostB]; omega)
 ·have w0' : (wd == 0) = false := by simpa using w0
  go_enter Tryz.func48, Tryz.ntmps48
  go_wp2_with fail
  refine (known_calls 19 _).mono ?_; rintro e w1 ⟨rfl, rfl⟩
  rw [HB.o]
  go_wp2_with fail
  all_goals go_ret
  all_goals refine ⟨ret_bool ?_, (Below.refl _ w).alloc (Nat.le_refl _) _⟩
  all_goals (rw [Bool.eq_iff_iff]; simp [fitsV, wideB, toldB, leastB, mostB]; omega)
theorem fits_19b (wd id ix : Int) (n : Nat) {p : Option Addr} {cap : Nat} (hn : n ≤ 9223372036854775807) (hw : i64B wd) (hi : i64B id) (hx : i64B ix) (w : World) (d : 32 ≤ id) :
  Calls Tryz.prog 48 #[.agg #[.int .i64 19, .int .i64 wd, .int .i64 id, .int .i64 ix, .slice p n cap]] w fun e w' => e = .returned (.bool (fitsV 19 wd id ix n)) ∧ Below w.heap.size w w' := by
 unfold i64B at hw hi hx
 have HB := zh (show (decide ((1 : Int) ≤ 19) && decide ((19 : Int) ≤ 20)) = true by simp)
 by_cases w0 : wd = 0
 ·subst w0
  go_enter Tryz.func48, Tryz.ntmps48
  go_wp2_with fail
  refine (known_calls 19 _).mono ?_; rintro e w1 ⟨rfl, rfl⟩
  rw [HB.o]
  go_wp2_with fail
  all_goals go_ret
  all_goals refine ⟨ret_bool ?_, (Below.refl _ w).alloc (Nat.le_refl _) _⟩
  all_goals (rw [Bool.eq_iff_iff]; simp [fitsV, wideB, toldB, leastB, mostB]; omega)
 ·have w0' : (wd == 0) = false := by simpa using w0
  go_enter Tryz.func48, Tryz.ntmps48
  go_wp2_with fail
  refine (known_calls 19 _).mono ?_; rintro e w1 ⟨rfl, rfl⟩
  rw [HB.o]
  go_wp2_with fail
  all_goals go_ret
  all_goals refine ⟨ret_bool ?_, (Below.refl _ w).alloc (Nat.le_refl _) _⟩
  all_goals (rw [Bool.eq_iff_iff]; simp [fitsV, wideB, toldB, leastB, mostB]; omega)
theorem fits_19c (wd id ix : Int) (n : Nat) {p : Option Addr} {cap : Nat} (hn : n ≤ 9223372036854775807) (hw : i64B wd) (hi : i64B id) (hx : i64B ix) (w : World) (d1 : 0 ≤ id) (d2 : id < 32) (hix : ¬ (1 ≤ ix ∧ ix ≤ 20)) :
  Calls Tryz.prog 48 #[.agg #[.int .i64 19, .int .i64 wd, .int .i64 id, .int .i64 ix, .slice p n cap]] w fun e w' => e = .returned (.bool (fitsV 19 wd id ix n)) ∧ Below w.heap.size w w' := by
 unfold i64B at hw hi hx
 have HB := zh (show (decide ((1 : Int) ≤ 19) && decide ((19 : Int) ≤ 20)) = true by simp)
 have HX := zh (show (decide (1 ≤ ix) && decide (ix ≤ 20)) = false by rw [Bool.eq_false_iff]; simp; omega)
 have HI := zh hix
 clear hix
 by_cases w0 : wd = 0
 ·subst w0
  go_enter Tryz.func48, Tryz.ntmps48
  go_wp2_with fail
  refine (known_calls 19 _).mono ?_; rintro e w1 ⟨rfl, rfl⟩
  rw [HB.o]
  go_wp2_with fail
  all_goals (refine (known_calls ix _).mono ?_; rintro e w1 ⟨rfl, rfl⟩; rw [HX.o]; go_wp2_with fail)
  all_goals go_ret
  all_goals refine ⟨ret_bool ?_, (Below.refl _ w).alloc (Nat.le_refl _) _⟩
  all_goals (have hix := HI.o; rw [Bool.eq_iff_iff]; simp [fitsV, wideB, toldB, leastB, mostB]; omega)
 ·have w0' : (wd == 0) = false := by simpa using w0
  go_enter Tryz.func48, Tryz.ntmps48
  go_wp2_with fail
  refine (known_calls 19 _).mono ?_; rintro e w1 ⟨rfl, rfl⟩
  rw [HB.o]
  go_wp2_with fail
  all_goals (refine (known_calls ix _).mono ?_; rintro e w1 ⟨rfl, rfl⟩; rw [HX.o]; go_wp2_with fail)
  all_goals go_ret
  all_goals refine ⟨ret_bool ?_, (Below.refl _ w).alloc (Nat.le_refl _) _⟩
  all_goals (have hix := HI.o; rw [Bool.eq_iff_iff]; simp [fitsV, wideB, toldB, leastB, mostB]; omega)
theorem fits_19d (wd id : Int) (m : Nat) (n : Nat) {p : Option Addr} {cap : Nat} (hn : n ≤ 9223372036854775807) (hw : i64B wd) (hi : i64B id) (w : World) (hS : SaysAt w) (d1 : 0 ≤ id) (d2 : id < 32) (x1 : 1 ≤ m) (x2 : m ≤ 20) (h1 : 3 ≤ m) (h2 : m ≤ 10) :
  Calls Tryz.prog 48 #[.agg #[.int .i64 19, .int .i64 wd, .int .i64 id, .int .i64 (m : Int), .slice p n cap]] w fun e w' => e = .returned (.bool (fitsV 19 wd id m n)) ∧ Below w.heap.size w w' := by
 unfold i64B at hw hi
 have HB := zh (show (decide ((1 : Int) ≤ 19) && decide ((19 : Int) ≤ 20)) = true by simp)
 have HX := zh (show (decide (1 ≤ (m : Int)) && decide ((m : Int) ≤ 20)) = true by simp; omega)
 have hc : w.cell? ⟨0, m * 4 + 3, none⟩ = some (.bool true) := by rw [hS m (by omega)]; congr 2; rw [Bool.eq_iff_iff]; simp; omega
 have hlt : 0 < w.heap.size := World.block_lt_of_cell? w _ hc
 by_cases w0 : wd = 0
 ·subst w0
  go_enter Tryz.func48, Tryz.ntmps48
  go_wp2_with fail
  refine (known_calls 19 _).mono ?_; rintro e w1 ⟨rfl, rfl⟩
  rw [HB.o]
  go_wp2_with fail
  all_goals (refine (known_calls m _).mono ?_; rintro e w1 ⟨rfl, rfl⟩; rw [HX.o]; go_wp2)
  all_goals go_ret
  all_goals refine ⟨ret_bool ?_, (Below.refl _ w).alloc (Nat.le_refl _) _⟩
  all_goals (rw [Bool.eq_iff_iff]; simp [fitsV, wideB, toldB, leastB, mostB]; omega)
 ·have w0' : (wd == 0) = false := by simpa using w0
  go_enter Tryz.func48, Tryz.ntmps48
  go_wp2_with fail
  refine (known_calls 19 _).mono ?_; rintro e w1 ⟨rfl, rfl⟩
  rw [HB.o]
  go_wp2_with fail
  all_goals (refine (known_calls m _).mono ?_; rintro e w1 ⟨rfl, rfl⟩; rw [HX.o]; go_wp2)
  all_goals go_ret
  all_goals refine ⟨ret_bool ?_, (Below.refl _ w).alloc (Nat.le_refl _) _⟩
  all_goals (rw [Bool.eq_iff_iff]; simp [fitsV, wideB, toldB, leastB, mostB]; omega)
theorem fits_19e (wd id : Int) (m : Nat) (n : Nat) {p : Option Addr} {cap : Nat} (hn : n ≤ 9223372036854775807) (hw : i64B wd) (hi : i64B id) (w : World) (hS : SaysAt w) (d1 : 0 ≤ id) (d2 : id < 32) (x1 : 1 ≤ m) (x2 : m ≤ 20) (h0 : ¬ (3 ≤ m ∧ m ≤ 10)) :
  Calls Tryz.prog 48 #[.agg #[.int .i64 19, .int .i64 wd, .int .i64 id, .int .i64 (m : Int), .slice p n cap]] w fun e w' => e = .returned (.bool (fitsV 19 wd id m n)) ∧ Below w.heap.size w w' := by
 unfold i64B at hw hi
 have HB := zh (show (decide ((1 : Int) ≤ 19) && decide ((19 : Int) ≤ 20)) = true by simp)
 have HX := zh (show (decide (1 ≤ (m : Int)) && decide ((m : Int) ≤ 20)) = true by simp; omega)
 have hc : w.cell? ⟨0, m * 4 + 3, none⟩ = some (.bool false) := by rw [hS m (by omega)]; congr 2; rw [Bool.eq_false_iff]; simp; omega
 have hlt : 0 < w.heap.size := World.block_lt_of_cell? w _ hc
 have HI := zh h0
 clear h0
 by_cases w0 : wd = 0
 ·subst w0
  go_enter Tryz.func48, Tryz.ntmps48
  go_wp2_with fail
  refine (known_calls 19 _).mono ?_; rintro e w1 ⟨rfl, rfl⟩
  rw [HB.o]
  go_wp2_with fail
  all_goals (refine (known_calls m _).mono ?_; rintro e w1 ⟨rfl, rfl⟩; rw [HX.o]; go_wp2)
  all_goals go_ret
  all_goals refine ⟨ret_bool ?_, (Below.refl _ w).alloc (Nat.le_refl _) _⟩
  all_goals (have h0 := HI.o; rw [Bool.eq_iff_iff]; simp [fitsV, wideB, toldB, leastB, mostB]; omega)
 ·have w0' : (wd == 0) = false := by simpa using w0
  go_enter Tryz.func48, Tryz.ntmps48
  go_wp2_with fail
  refine (known_calls 19 _).mono ?_; rintro e w1 ⟨rfl, rfl⟩
  rw [HB.o]
  go_wp2_with fail
  all_goals (refine (known_calls m _).mono ?_; rintro e w1 ⟨rfl, rfl⟩; rw [HX.o]; go_wp2)
  all_goals go_ret
  all_goals refine ⟨ret_bool ?_, (Below.refl _ w).alloc (Nat.le_refl _) _⟩
  all_goals (have h0 := HI.o; rw [Bool.eq_iff_iff]; simp [fitsV, wideB, toldB, leastB, mostB]; omega)
theorem fits_19 (wd id ix : Int) (n : Nat) {p : Option Addr} {cap : Nat} (hn : n ≤ 9223372036854775807) (hw : i64B wd) (hi : i64B id) (hx : i64B ix) (w : World) (hS : SaysAt w) :
  Calls Tryz.prog 48 #[.agg #[.int .i64 19, .int .i64 wd, .int .i64 id, .int .i64 ix, .slice p n cap]] w fun e w' => e = .returned (.bool (fitsV 19 wd id ix n)) ∧ Below w.heap.size w w' := by
 by_cases d1 : 0 ≤ id
 ·by_cases d2 : id < 32
  ·by_cases hix : 1 ≤ ix ∧ ix ≤ 20
   ·obtain ⟨m, rfl⟩ := Int.eq_ofNat_of_zero_le (show 0 ≤ ix by omega)
    by_cases h0 : 3 ≤ m ∧ m ≤ 10
    ·exact fits_19d wd id m n hn hw hi w hS d1 d2 (by omega) (by omega) h0.1 h0.2
    ·exact fits_19e wd id m n hn hw hi w hS d1 d2 (by omega) (by omega) h0
   ·exact fits_19c wd id ix n hn hw hi hx w d1 d2 hix
  ·exact fits_19b wd id ix n hn hw hi hx w (by omega)
 ·exact fits_19a wd id ix n hn hw hi hx w (by omega)
theorem fits_calls {w : World} {f : Fd} {cs : List Value} (h : FdAt w f cs) (hS : SaysAt w) :
  ∃ p cap, cs = [.string f.nm, .bool f.nl, .int .i64 f.k, .int .i64 f.wd, .int .i64 f.id, .int .i64 f.ix, .slice p f.kids.length cap] ∧ FdsAt w f.kids (.slice p f.kids.length cap) ∧
  Calls Tryz.prog 48 #[.agg #[.int .i64 f.k, .int .i64 f.wd, .int .i64 f.id, .int .i64 f.ix, .slice p f.kids.length cap]] w fun e w' => e = .returned (.bool (fitsB f)) ∧ Below w.heap.size w w' := by
 obtain ⟨p, cap, h1, h2, h0, h3, h4, h5, h6⟩ := h.shape
 refine ⟨p, cap, h1, h2, ?_⟩
 obtain ⟨_, _, e, hl, hm, _⟩ := h2
 cases e
 unfold maxLen at hm
 have hn : f.kids.length ≤ 9223372036854775807 := by omega
 rw [fitsB_eq]
 by_cases hs : 1 ≤ f.k ∧ f.k ≤ 20
 ·rcases (show f.k ≤ 13 ∨ f.k = 14 ∨ f.k = 15 ∨ f.k = 16 ∨ f.k = 17 ∨ f.k = 18 ∨ f.k = 19 ∨ f.k = 20 by omega) with h | h | h | h | h | h | h | h
  ·exact fits_other _ _ _ _ _ hs.1 h hn h4 h5 h6 w
  ·rw [h]; exact fits_14 _ _ _ _ hn h4 h5 h6 w
  ·rw [h]; exact fits_15 _ _ _ _ hn h4 h5 h6 w
  ·rw [h]; exact fits_16 _ _ _ _ hn h4 h5 h6 w
  ·rw [h]; exact fits_17 _ _ _ _ hn h4 h5 h6 w
  ·rw [h]; exact fits_18 _ _ _ _ hn h4 h5 h6 w
  ·rw [h]; exact fits_19 _ _ _ _ hn h4 h5 h6 w hS
  ·rw [h]; exact fits_20 _ _ _ _ hn h4 h5 h6 w
 ·exact fits_none _ _ _ _ _ hs w
theorem below_drewN {n : Nat} {w w' : World} (h : Below n w w') (k : Nat) : Below n w (w'.drewN k) := ⟨h.os, h.tape, h.output, h.size, h.block⟩
theorem below_drew {n : Nat} {w w' : World} (h : Below n w w') : Below n w w'.drew := ⟨h.os, h.tape, h.output, h.size, h.block⟩
theorem nulls_calls {w : World} {f : Fd} {cs : List Value} (h : FdAt w f cs) (hk : f.k = 20 → f.kids ≠ []) :
  Calls Tryz.prog 49 #[.agg cs.toArray] w fun e w' => e = .returned (.bool (nullsB f)) ∧ Below w.heap.size w w' := by
 obtain ⟨p, cap, rfl, h2, h0, h3, h4, h5, h6⟩ := h.shape
 obtain ⟨_, _, e, hl, hm, hC⟩ := h2
 cases e
 unfold maxLen at hm
 obtain ⟨nb, hnb⟩ : ∃ b, b = nullsB f := ⟨_, rfl⟩
 rw [← hnb]
 unfold nullsB at hnb
 have HN := zh hnb
 clear hnb h
 by_cases k1 : f.k = 1
 ·have E := zh (show nb = f.nl by rw [HN.o, k1]; rfl)
  rw [k1]
  go_enter Tryz.func49, Tryz.ntmps49
  go_wp2_with fail
  go_ret
  exact ⟨by rw [E.o]; rfl, (Below.refl _ w).alloc (Nat.le_refl _) _⟩
 ·by_cases k18 : f.k = 18
  ·have E := zh (show nb = !f.nl by rw [HN.o, k18]; rfl)
   rw [k18]
   go_enter Tryz.func49, Tryz.ntmps49
   go_wp2_with fail
   go_ret
   exact ⟨by rw [E.o]; rfl, (Below.refl _ w).alloc (Nat.le_refl _) _⟩
  ·by_cases k20 : f.k = 20
   ·cases hkd : f.kids with
    | nil => exact absurd hkd (hk k20)
    | cons g r =>
     have E := zh (show nb = (f.nl == g.nl) by rw [HN.o, k20]; simp [firstNl, hkd])
     rw [hkd] at hC hl
     obtain ⟨b, o, cs', e1, e2, e3⟩ := hC.get 0 (by simp)
     obtain ⟨p', cap', hcs', _⟩ := e3.shape
     have c1 := e2 1 (.bool g.nl) (by rw [hcs']; rfl)
     have e4 : o + (0 + 7 * 0) + 1 = o + 1 := by omega
     rw [e4] at c1
     have hblk := World.block_lt_of_cell? w _ c1
     simp only at hblk
     clear e2 e3 hcs' e4 hC hk hkd k1 k18
     subst e1
     rw [k20]
     clear k20
     generalize hg : (g :: r).length = n at *
     have hn : 0 < n := by rw [← hg]; simp
     clear hg
     go_enter Tryz.func49, Tryz.ntmps49
     go_wp2_with fail
     go_quiet (fail)
     go_wp2_with fail
     go_ret
     exact ⟨by rw [E.o]; rfl, below_drewN ((Below.refl _ w).alloc (Nat.le_refl _) _) _⟩
   ·have E := zh (show nb = true by rw [HN.o]; simp [k1, k18, k20])
    generalize f.k = k at *
    clear hk
    have n1 : (k == 1) = false := by simpa using k1
    have n18 : (k == 18) = false := by simpa using k18
    have n20 : (k == 20) = false := by simpa using k20
    clear k1 k18 k20
    go_enter Tryz.func49, Tryz.ntmps49
    go_wp2_with fail
    go_ret
    exact ⟨by rw [E.o]; rfl, (Below.refl _ w).alloc (Nat.le_refl _) _⟩
theorem same_name {w : World} {f : Fd} {cs : List Value} (h : FdAt w f cs) (s : ByteArray) (b o : Nat) (hs : w.cell? ⟨b, o + 2, none⟩ = some (.string s)) :
  Calls Tryz.prog 47 #[.agg cs.toArray, .pointer (some ⟨b, o, none⟩)] w fun e w' => e = .returned (.bool (f.nm.toList == s.toList)) ∧ Below w.heap.size w w' := by
 obtain ⟨p, cap, rfl, _⟩ := h.shape
 have hblk := World.block_lt_of_cell? w _ hs
 simp only at hblk
 clear h
 go_enter Tryz.func47, Tryz.ntmps47
 go_wp2_with fail
 go_ret
 exact ⟨rfl, (Below.refl _ w).alloc (Nat.le_refl _) _⟩
theorem index_calls {w : World} {l : List Fd} {v : Value} (h : FdsAt w l v) (s : ByteArray) (b o : Nat) (hs : w.cell? ⟨b, o + 2, none⟩ = some (.string s)) :
  Calls Tryz.prog 56 #[v, .func (.func 47) #[] #[.pointer (some ⟨b, o, none⟩)]] w fun e w' => (∃ i : Int, e = .returned (.int .i64 i) ∧ -1 ≤ i ∧ i ≤ l.length ∧ decide (0 ≤ i) = l.any fun g => g.nm.toList == s.toList) ∧ Below w.heap.size w w' := by
 obtain ⟨p, cap, rfl, hl, hm, hC⟩ := h
 unfold maxLen at hm
 have HC := zh hC
 have HS := zh hs
 clear hC hs
 go_enter Tryz.func56, Tryz.ntmps56
 go_wp2_with fail
 go_loopw [8] (fun i wr => ∃ k : Nat, k ≤ l.length ∧ i = .int .i64 k ∧ Below w.heap.size w wr ∧ Hid (∀ j (hj : j < l.length), j < k → (l[j].nm.toList == s.toList) = false)) (fun i _ => l.length - (intOf i).toNat)
 case atStart => exact ⟨0, by omega, rfl, Below.refl _ w, zh (fun j hj h => absurd h (Nat.not_lt_zero _))⟩
 case round =>
  obtain ⟨k, hk, rfl, hb, H⟩ := hrel
  by_cases hlt : k < l.length
  ·obtain ⟨b', o', q, cap', rfl, e3, c0, c1, c2, c3, c4, c5, c6⟩ := (HC.o.below hb).seven k hlt
   have hS := HS.o
   have hS := cell_below hb hS
   have Next : Hid ((l[k].nm.toList == s.toList) = false → ∀ j (hj : j < l.length), j < k + 1 → (l[j].nm.toList == s.toList) = false) := zh (fun hf j hj hjk => by
    by_cases e : j = k
    ·subst e; exact hf
    ·exact H.o j hj (by omega))
   have Hit : Hid ((l[k].nm.toList == s.toList) = true → (l.any fun g => g.nm.toList == s.toList) = true) := zh (fun ht => List.any_eq_true.2 ⟨l[k], List.getElem_mem hlt, ht⟩)
   have E3 := zh e3
   clear e3
   generalize l[k] = f at *
   go_wp2_with fail
   refine (same_name E3.o s b o hS).mono ?_; rintro e w1 ⟨rfl, hb1⟩
   have hb2 : Below w.heap.size w w1 := hb.trans (hb1.mono hb.size)
   clear c0 c1 c2 c3 c4 c5 c6 hS
   generalize hq : (f.nm.toList == s.toList) = t at *
   cases t with
   | true =>
    go_wp2_with fail
    go_ret
    exact ⟨⟨k, rfl, by omega, by omega, by rw [Hit.o trivial]; simp⟩, hb2⟩
   | false =>
    have HN := zh (Next.o rfl)
    go_wp2_with fail
    go_round
    case rel => exact ⟨k + 1, by omega, by go_num, hb2, HN⟩
    case measure => simp [intOf]; omega
  ·go_wp2_with fail
   go_ret
   refine ⟨⟨-1, rfl, by omega, by omega, ?_⟩, hb⟩
   have : (l.any fun g => g.nm.toList == s.toList) = false := by
    rw [List.any_eq_false]
    intro g hg
    obtain ⟨j, hj, rfl⟩ := List.getElem_of_mem hg
    rw [H.o j hj (by omega)]
    simp
   rw [this]
   rfl
theorem contains_calls {w : World} {l : List Fd} {v : Value} (h : FdsAt w l v) (s : ByteArray) (b o : Nat) (hs : w.cell? ⟨b, o + 2, none⟩ = some (.string s)) :
  Calls Tryz.prog 46 #[v, .func (.func 47) #[] #[.pointer (some ⟨b, o, none⟩)]] w fun e w' => e = .returned (.bool (l.any fun g => g.nm.toList == s.toList)) ∧ Below w.heap.size w w' := by
 have h' := h
 obtain ⟨p, cap, rfl, hl, hm, hC⟩ := h'
 unfold maxLen at hm
 have HF := zh h
 have HS := zh hs
 clear hC hs h
 go_enter Tryz.func46, Tryz.ntmps46
 go_wp2_with fail
 refine (index_calls HF.o s b o HS.o).mono ?_; rintro e w1 ⟨⟨i, rfl, i1, i2, hi⟩, hb⟩
 have HI := zh hi
 clear hi
 go_wp2_with fail
 go_ret
 exact ⟨by rw [← HI.o]; rfl, hb⟩
def IntsAt (w : World) (xs : List Int) (v : Value) : Prop := ∃ p cap, v = .slice p xs.length cap ∧ xs.length ≤ cap ∧ cap ≤ maxLen ∧ ∀ i (hi : i < xs.length), i64B xs[i] ∧ ∃ b o, p = some ⟨b, o, none⟩ ∧ w.cell? ⟨b, o + i, none⟩ = some (.int .i64 xs[i])
theorem IntsAt.below {w w' : World} {xs : List Int} {v : Value} (h : IntsAt w xs v) (hb : Below w.heap.size w w') : IntsAt w' xs v := by
 obtain ⟨p, cap, h1, h2, h3, h4⟩ := h
 refine ⟨p, cap, h1, h2, h3, fun i hi => ?_⟩
 obtain ⟨g1, b, o, g2, g3⟩ := h4 i hi
 exact ⟨g1, b, o, g2, cell_below hb g3⟩
def idxAt : List Int → Int → Nat → Int
 | [], _, _ => -1
 | x :: r, v, k => if x = v then k else idxAt r v (k + 1)
def idxI (l : List Int) (v : Int) : Int := idxAt l v 0
theorem idxAt_none : ∀ {l : List Int} {v : Int} {k : Nat}, (∀ j (hj : j < l.length), l[j] ≠ v) → idxAt l v k = -1
 | [], v, k, h => rfl
 | x :: r, v, k, h => by
  unfold idxAt
  rw [if_neg (show x ≠ v from h 0 (by simp))]
  exact idxAt_none (fun j hj => h (j + 1) (by simpa using hj))
theorem idxAt_some : ∀ {l : List Int} {v : Int} {k i : Nat} (hi : i < l.length), l[i] = v → (∀ j (hj : j < l.length), j < i → l[j] ≠ v) → idxAt l v k = ((k + i : Nat) : Int)
 | [], v, k, i, hi, _, _ => by simp at hi
 | x :: r, v, k, 0, hi, he, h => by
  unfold idxAt
  rw [if_pos (show x = v from he)]
  rfl
 | x :: r, v, k, i + 1, hi, he, h => by
  unfold idxAt
  rw [if_neg (show x ≠ v from h 0 (by simp) (by omega)), idxAt_some (l := r) (k := k + 1) (i := i) (by simpa using hi) (by simpa using he) (fun j hj hji => h (j + 1) (by simpa using hj) (by omega))]
  congr 1
  omega
theorem idxI_mem {l : List Int} {v : Int} : decide (0 ≤ idxI l v) = true ↔ ∃ j, ∃ hj : j < l.length, l[j] = v := by
 unfold idxI
 by_cases h : ∃ j, ∃ hj : j < l.length, l[j] = v
 ·refine ⟨fun _ => h, fun _ => ?_⟩
  have key : ∀ n, (∃ j, ∃ hj : j < l.length, l[j] = v ∧ j ≤ n) → ∃ j, ∃ hj : j < l.length, l[j] = v ∧ ∀ t (ht : t < l.length), t < j → l[t] ≠ v := by
   intro n
   induction n with
   | zero =>
    rintro ⟨j, hj, e, hn⟩
    exact ⟨j, hj, e, fun t ht htj => by omega⟩
   | succ n ih =>
    rintro ⟨j, hj, e, hn⟩
    by_cases hs : ∃ t, ∃ ht : t < l.length, l[t] = v ∧ t ≤ n
    ·exact ih hs
    ·exact ⟨j, hj, e, fun t ht htj he => hs ⟨t, ht, he, by omega⟩⟩
  obtain ⟨j, hj, e⟩ := h
  obtain ⟨i, hi, ei, hm⟩ := key j ⟨j, hj, e, Nat.le_refl _⟩
  rw [idxAt_some hi ei hm]
  simp
 ·refine ⟨fun g => ?_, fun g => absurd g h⟩
  rw [idxAt_none (fun j hj e => h ⟨j, hj, e⟩)] at g
  simp at g
def BoolPost (w : World) (b : Bool) (e : Ending) (w' : World) : Prop := e = .returned (.bool b) ∧ Below w.heap.size w w'
theorem bool_post {w w' : World} {a b : Bool} (h : a = b) (hb : Below w.heap.size w w') : BoolPost w b (.returned (.bool a)) w' := ⟨by rw [h], hb⟩
def StillPost (w : World) (v : Value) (e : Ending) (w' : World) : Prop := e = .returned v ∧ w' = w
theorem still_post {w w' : World} {u v : Value} (h : u = v) (hw : w' = w) : StillPost w v (.returned u) w' := ⟨by rw [h], hw⟩
theorem idx_calls {w : World} {l : List Int} {v : Value} (h : IntsAt w l v) (x : Int) : Calls Tryz.prog 21 #[v, .int .i64 x] w (StillPost w (.int .i64 (idxI l x))) := by
 obtain ⟨p, cap, rfl, hl, hm, hC⟩ := h
 unfold maxLen at hm
 have HC := zh hC
 clear hC
 go_enter Tryz.func21, Tryz.ntmps21
 go_wp2_with fail
 go_loopw [8] (fun i wr => ∃ k : Nat, k ≤ l.length ∧ i = .int .i64 k ∧ wr = w ∧ Hid (∀ j (hj : j < l.length), j < k → l[j] ≠ x)) (fun i _ => l.length - (intOf i).toNat)
 case atStart => exact ⟨0, by omega, rfl, rfl, zh (fun j hj h => absurd h (Nat.not_lt_zero _))⟩
 case round =>
  obtain ⟨k, hk, rfl, rfl, H⟩ := hrel
  by_cases hlt : k < l.length
  ·obtain ⟨hx, b, o, rfl, c0⟩ := HC.o k hlt
   have hgo : l[k] ≠ x → ∀ j (hj : j < l.length), j < k + 1 → l[j] ≠ x := fun hf j hj hjk => by
    by_cases e : j = k
    ·subst e; exact hf
    ·exact H.o j hj (by omega)
   have hhit : l[k] = x → idxI l x = k := fun e => by
    unfold idxI
    rw [idxAt_some hlt e H.o]
    simp
   have Next := zh hgo
   have Hit := zh hhit
   clear hgo hhit
   generalize l[k] = y at *
   by_cases hxy : y = x
   ·have E := zh (Hit.o hxy)
    have b1 : (x == y) = true := by simp [hxy]
    clear hxy
    go_wp2_with fail
    go_ret
    exact still_post (by rw [E.o]; rfl) rfl
   ·have N := zh (Next.o hxy)
    have b1 : (x == y) = false := by simp; exact fun e => hxy e.symm
    clear hxy
    go_wp2_with fail
    go_round
    case rel => exact ⟨k + 1, by omega, by go_num, trivial, N⟩
    case measure => simp [intOf]; omega
  ·have E : idxI l x = -1 := idxAt_none (fun j hj => H.o j hj (by omega))
   have E := zh E
   go_wp2_with fail
   go_ret
   exact still_post (by rw [E.o]; rfl) rfl
theorem has_calls {w : World} {l : List Int} {v : Value} (h : IntsAt w l v) (x : Int) : Calls Tryz.prog 22 #[v, .int .i64 x] w (StillPost w (.bool (decide (0 ≤ idxI l x)))) := by
 have H := zh h
 clear h
 go_enter Tryz.func22, Tryz.ntmps22
 go_wp2_with fail
 refine (idx_calls H.o x).mono ?_; rintro e w1 ⟨rfl, rfl⟩
 go_wp2_with fail
 go_ret
 exact still_post rfl rfl
end Go.Fld
