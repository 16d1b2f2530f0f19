import Derived.Test.YtkhpgcbjmopkfaaGreatDoorRows
import Derived.Test.YtkhpgcbjmopkfaaGreatDoorFa
import Derived.OpenShut
import Derived.WalkSpells
import Derived.Deep.QuietTactic
import Derived.BigQuiet
import Derived.Lib.Strings
set_option linter.unusedVariables false
set_option maxRecDepth 100000
/-!
  NAMES: letters; what a name is. No conditions.
-/
namespace Go.Fld
open Go Go.RowKit Go.Proofs Go.ChangeShapes Go.WideShapes Go.ChangeAt

theorem letter_calls (c : Nat) (hc : c < 256) (w : World) : Calls Tryz.prog 55 #[.int .u8 (c : Int)] w fun e w' => e = .returned (.bool (letterB c)) ∧ w' = w := by
  go_enter Tryz.func55, Tryz.ntmps55
  go_wp2
  all_goals go_ret
  all_goals (refine ⟨congrArg (fun b => Ending.returned (.bool b)) ?_, rfl⟩; rw [Bool.eq_iff_iff]; simp [letterB]; omega)

theorem rletter_calls (c : Nat) (hc : c < 256) (w : World) : Calls Tryz.prog 58 #[.int .u8 (c : Int)] w fun e w' => e = .returned (.bool (letterB c)) ∧ w' = w := by
  go_enter Tryz.func58, Tryz.ntmps58
  go_wp2
  all_goals go_ret
  all_goals (refine ⟨congrArg (fun b => Ending.returned (.bool b)) ?_, rfl⟩; rw [Bool.eq_iff_iff]; simp [letterB]; omega)

theorem known_calls (k : Int) (w : World) : Calls Tryz.prog 57 #[.int .i64 k] w fun e w' => e = .returned (.bool (decide (1 ≤ k) && decide (k ≤ 20))) ∧ w' = w := by
  go_enter Tryz.func57, Tryz.ntmps57
  go_wp2
  all_goals go_ret
  all_goals (refine ⟨congrArg (fun b => Ending.returned (.bool b)) ?_, rfl⟩; rw [Bool.eq_iff_iff]; simp; omega)

theorem okFrom_take {s : List UInt8} : ∀ {i : Nat}, okFrom i s = true → ∀ k (hk : k < s.length), okAt (i + k) s[k] = true := by
  induction s with
  | nil => intro i h k hk; exact absurd hk (Nat.not_lt_zero _)
  | cons c r ih =>
    intro i h k hk
    simp only [okFrom, Bool.and_eq_true] at h
    cases k with
    | zero => simpa using h.1
    | succ k =>
      have := ih h.2 k (by simpa using hk)
      simpa [Nat.add_assoc, Nat.add_comm 1 k] using this
theorem okFrom_all {s : List UInt8} : ∀ {i : Nat}, (∀ k (hk : k < s.length), okAt (i + k) s[k] = true) → okFrom i s = true := by
  induction s with
  | nil => intro i h; rfl
  | cons c r ih =>
    intro i h
    simp only [okFrom, Bool.and_eq_true]
    refine ⟨h 0 (by simp), ih (fun k hk => ?_)⟩
    have := h (k + 1) (by simpa using hk)
    simpa [Nat.add_assoc, Nat.add_comm 1 k] using this
theorem nameB_bad {s : ByteArray} {k : Nat} (hk : k < s.data.toList.length) (h : okAt k s.data.toList[k] = false) : nameB s = false := by
  unfold nameB
  cases ho : okFrom 0 s.data.toList with
  | false => rfl
  | true =>
    have := okFrom_take ho k hk
    rw [Nat.zero_add, h] at this
    cases this
theorem nameB_good {s : ByteArray} (h : ∀ k (hk : k < s.data.toList.length), okAt k s.data.toList[k] = true) : nameB s = (decide (0 < s.size) && decide (s.size ≤ 48)) := by
  unfold nameB
  rw [okFrom_all (i := 0) (fun k hk => by rw [Nat.zero_add]; exact h k hk)]
  rfl

theorem named_calls (s : ByteArray) (hs : s.size ≤ maxLen) (w : World) : Calls Tryz.prog 45 #[.string s] w fun e w' => e = .returned (.bool (nameB s)) ∧ w' = w := by
  unfold maxLen at hs
  have hsz : s.data.toList.length = s.size := Array.length_toList
  go_enter Tryz.func45, Tryz.ntmps45
  go_wp2_with fail
  go_loop [7] (fun i => ∃ k : Nat, k ≤ s.size ∧ i = .int .i64 k ∧ Hid (∀ j (hj : j < s.data.toList.length), j < k → okAt j s.data.toList[j] = true)) (fun i => s.size - (intOf i).toNat)
  case atStart => exact ⟨0, by omega, rfl, Lib.hid (fun j hj h => absurd h (Nat.not_lt_zero _))⟩
  case round =>
    obtain ⟨k, hk, rfl, H⟩ := hrel
    by_cases hlt : k < s.size
    · go_wp2_with fail
      have hg : s.data.toList[k]'(by rw [hsz]; exact hlt) = s[k] := by rw [Array.getElem_toList]; rfl
      have G := Lib.hid hg
      clear hg
      generalize s[k] = c at G ⊢
      have hc := c.toNat_lt
      refine (letter_calls c.toNat (by omega) w).mono ?_; rintro e w1 ⟨rfl, rfl⟩
      have bad : ∀ b, okAt k c = b → b = false → nameB s = false := fun b h1 h2 => nameB_bad (k := k) (by rw [hsz]; exact hlt) (by rw [G.out, h1, h2])
      have Bad := Lib.hid bad
      have next : okAt k c = true → ∀ j (hj : j < s.data.toList.length), j < k + 1 → okAt j s.data.toList[j] = true := fun hok j hj hjk => by
        by_cases e : j = k
        · subst e; rw [G.out]; exact hok
        · exact H.out j hj (by omega)
      have Next := Lib.hid next
      clear bad next
      cases hL : letterB c.toNat with
      | false =>
        have E := Lib.hid (Bad.out _ (by simp [okAt, hL]) rfl)
        clear hL
        go_wp2_with fail
        go_ret
        exact ⟨by rw [E.out]; rfl, rfl⟩
      | true =>
        by_cases h0 : k = 0
        · subst h0
          by_cases hd : 48 ≤ c.toNat ∧ c.toNat ≤ 57
          · have E := Lib.hid (Bad.out _ (by simp [okAt, hL, hd]) rfl)
            obtain ⟨hd1, hd2⟩ := hd
            clear hL
            go_wp2_with fail
            go_ret
            exact ⟨by rw [E.out]; rfl, rfl⟩
          · have E := Lib.hid (Next.out (by simp [okAt, hL]; omega))
            by_cases hd1 : 48 ≤ c.toNat
            · have hd2 : ¬ c.toNat ≤ 57 := fun h => hd ⟨hd1, h⟩
              clear hL hd
              go_wp2_with fail
              go_round
              case rel => exact ⟨1, by omega, by go_num, E⟩
              case measure => simp [intOf]; omega
            · clear hL hd
              go_wp2_with fail
              go_round
              case rel => exact ⟨1, by omega, by go_num, E⟩
              case measure => simp [intOf]; omega
        · have E := Lib.hid (Next.out (by simp [okAt, hL, h0]))
          clear hL
          go_wp2_with fail
          go_round
          case rel => exact ⟨k + 1, by omega, by go_num, E⟩
          case measure => simp [intOf]; omega
    · have hg := nameB_good (s := s) (fun j hj => H.out j hj (by rw [hsz] at hj; omega))
      have G := Lib.hid hg
      clear hg
      have hemp : s.toList.isEmpty = decide (s.size = 0) := by
        rw [Lib.toList_data, Bool.eq_iff_iff, List.isEmpty_iff_length_eq_zero, hsz]
        simp
      by_cases h0 : s.size = 0
      · have hE : s.toList.isEmpty = true := by rw [hemp]; simp [h0]
        clear hemp
        go_wp2_with fail
        go_ret
        refine ⟨congrArg (fun b => Ending.returned (.bool b)) ?_, rfl⟩
        rw [G.out, h0]
        rfl
      · have hE : s.toList.isEmpty = false := by rw [hemp]; simp [h0]
        clear hemp
        go_wp2_with fail
        go_ret
        refine ⟨congrArg (fun b => Ending.returned (.bool b)) ?_, rfl⟩
        rw [G.out]
        rw [Bool.eq_iff_iff]; simp; omega
end Go.Fld
