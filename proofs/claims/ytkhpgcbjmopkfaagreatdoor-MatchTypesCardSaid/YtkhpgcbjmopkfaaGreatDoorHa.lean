import Derived.Test.YtkhpgcbjmopkfaaGreatDoorFd
set_option linter.unusedVariables false
set_option maxRecDepth 100000
/-!
  KEYS: lists of whole numbers; where one stands; may they be keys? No conditions.
-/
namespace Go.Fld
open Go Go.RowKit Go.Proofs Go.ChangeShapes Go.WideShapes Go.ChangeAt

/-- A list of whole numbers. -/
def IntsAt (w : World) (xs : List Int) (v : Value) : Prop := ∃ p cap, v = .slice p xs.length cap ∧ xs.length ≤ cap ∧ cap ≤ maxLen ∧ ∀ i (hi : i < xs.length), i64B xs[i] ∧ ∃ b o, p = some ⟨b, o, none⟩ ∧ w.cell? ⟨b, o + i, none⟩ = some (.int .i64 xs[i])
theorem IntsAt.below {w w' : World} {xs : List Int} {v : Value} (h : IntsAt w xs v) (hb : Below w.heap.size w w') : IntsAt w' xs v := by
  obtain ⟨p, cap, h1, h2, h3, h4⟩ := h
  refine ⟨p, cap, h1, h2, h3, fun i hi => ?_⟩
  obtain ⟨g1, b, o, g2, g3⟩ := h4 i hi
  exact ⟨g1, b, o, g2, cell_below hb g3⟩

/-- The first place of a number; -1: none. -/
def idxAt : List Int → Int → Nat → Int
  | [], _, _ => -1
  | x :: r, v, k => if x = v then k else idxAt r v (k + 1)
def idxI (l : List Int) (v : Int) : Int := idxAt l v 0
theorem idxAt_none : ∀ {l : List Int} {v : Int} {k : Nat}, (∀ j (hj : j < l.length), l[j] ≠ v) → idxAt l v k = -1
  | [], v, k, h => rfl
  | x :: r, v, k, h => by
    unfold idxAt
    rw [if_neg (show x ≠ v from h 0 (by simp))]
    exact idxAt_none (fun j hj => h (j + 1) (by simpa using hj))
theorem idxAt_some : ∀ {l : List Int} {v : Int} {k i : Nat} (hi : i < l.length), l[i] = v → (∀ j (hj : j < l.length), j < i → l[j] ≠ v) → idxAt l v k = ((k + i : Nat) : Int)
  | [], v, k, i, hi, _, _ => by simp at hi
  | x :: r, v, k, 0, hi, he, h => by
    unfold idxAt
    rw [if_pos (show x = v from he)]
    rfl
  | x :: r, v, k, i + 1, hi, he, h => by
    unfold idxAt
    rw [if_neg (show x ≠ v from h 0 (by simp) (by omega)), idxAt_some (l := r) (k := k + 1) (i := i) (by simpa using hi) (by simpa using he) (fun j hj hji => h (j + 1) (by simpa using hj) (by omega))]
    congr 1
    omega
theorem idxI_mem {l : List Int} {v : Int} : decide (0 ≤ idxI l v) = true ↔ ∃ j, ∃ hj : j < l.length, l[j] = v := by
  unfold idxI
  by_cases h : ∃ j, ∃ hj : j < l.length, l[j] = v
  · refine ⟨fun _ => h, fun _ => ?_⟩
    have key : ∀ n, (∃ j, ∃ hj : j < l.length, l[j] = v ∧ j ≤ n) → ∃ j, ∃ hj : j < l.length, l[j] = v ∧ ∀ t (ht : t < l.length), t < j → l[t] ≠ v := by
      intro n
      induction n with
      | zero =>
        rintro ⟨j, hj, e, hn⟩
        exact ⟨j, hj, e, fun t ht htj => by omega⟩
      | succ n ih =>
        rintro ⟨j, hj, e, hn⟩
        by_cases hs : ∃ t, ∃ ht : t < l.length, l[t] = v ∧ t ≤ n
        · exact ih hs
        · exact ⟨j, hj, e, fun t ht htj he => hs ⟨t, ht, he, by omega⟩⟩
    obtain ⟨j, hj, e⟩ := h
    obtain ⟨i, hi, ei, hm⟩ := key j ⟨j, hj, e, Nat.le_refl _⟩
    rw [idxAt_some hi ei hm]
    simp
  · refine ⟨fun g => ?_, fun g => absurd g h⟩
    rw [idxAt_none (fun j hj e => h ⟨j, hj, e⟩)] at g
    simp at g

/-- This answer comes back. -/
def BoolPost (w : World) (b : Bool) (e : Ending) (w' : World) : Prop := e = .returned (.bool b) ∧ Below w.heap.size w w'
theorem bool_post {w w' : World} {a b : Bool} (h : a = b) (hb : Below w.heap.size w w') : BoolPost w b (.returned (.bool a)) w' := ⟨by rw [h], hb⟩
/-- This comes back, and nothing is done. -/
def StillPost (w : World) (v : Value) (e : Ending) (w' : World) : Prop := e = .returned v ∧ w' = w
theorem still_post {w w' : World} {u v : Value} (h : u = v) (hw : w' = w) : StillPost w v (.returned u) w' := ⟨by rw [h], hw⟩

theorem idx_calls {w : World} {l : List Int} {v : Value} (h : IntsAt w l v) (x : Int) : Calls Tryz.prog 21 #[v, .int .i64 x] w (StillPost w (.int .i64 (idxI l x))) := by
  obtain ⟨p, cap, rfl, hl, hm, hC⟩ := h
  unfold maxLen at hm
  have HC := Lib.hid hC
  clear hC
  go_enter Tryz.func21, Tryz.ntmps21
  go_wp2_with fail
  go_loopw [8] (fun i wr => ∃ k : Nat, k ≤ l.length ∧ i = .int .i64 k ∧ wr = w ∧ Hid (∀ j (hj : j < l.length), j < k → l[j] ≠ x)) (fun i _ => l.length - (intOf i).toNat)
  case atStart => exact ⟨0, by omega, rfl, rfl, Lib.hid (fun j hj h => absurd h (Nat.not_lt_zero _))⟩
  case round =>
    obtain ⟨k, hk, rfl, rfl, H⟩ := hrel
    by_cases hlt : k < l.length
    · obtain ⟨hx, b, o, rfl, c0⟩ := HC.out k hlt
      have hgo : l[k] ≠ x → ∀ j (hj : j < l.length), j < k + 1 → l[j] ≠ x := fun hf j hj hjk => by
        by_cases e : j = k
        · subst e; exact hf
        · exact H.out j hj (by omega)
      have hhit : l[k] = x → idxI l x = k := fun e => by
        unfold idxI
        rw [idxAt_some hlt e H.out]
        simp
      have Next := Lib.hid hgo
      have Hit := Lib.hid hhit
      clear hgo hhit
      generalize l[k] = y at *
      by_cases hxy : y = x
      · have E := Lib.hid (Hit.out hxy)
        have b1 : (x == y) = true := by simp [hxy]
        clear hxy
        go_wp2_with fail
        go_ret
        exact still_post (by rw [E.out]; rfl) rfl
      · have N := Lib.hid (Next.out hxy)
        have b1 : (x == y) = false := by simp; exact fun e => hxy e.symm
        clear hxy
        go_wp2_with fail
        go_round
        case rel => exact ⟨k + 1, by omega, by go_num, trivial, N⟩
        case measure => simp [intOf]; omega
    · have E : idxI l x = -1 := idxAt_none (fun j hj => H.out j hj (by omega))
      have E := Lib.hid E
      go_wp2_with fail
      go_ret
      exact still_post (by rw [E.out]; rfl) rfl

theorem has_calls {w : World} {l : List Int} {v : Value} (h : IntsAt w l v) (x : Int) : Calls Tryz.prog 22 #[v, .int .i64 x] w (StillPost w (.bool (decide (0 ≤ idxI l x)))) := by
  have H := Lib.hid h
  clear h
  go_enter Tryz.func22, Tryz.ntmps22
  go_wp2_with fail
  refine (idx_calls H.out x).mono ?_; rintro e w1 ⟨rfl, rfl⟩
  go_wp2_with fail
  go_ret
  exact still_post rfl rfl

theorem among_calls {w : World} {l : List Int} {v : Value} (h : IntsAt w l v) (x : Int) : Calls Tryz.prog 27 #[v, .int .i64 x] w (StillPost w (.int .i64 (idxI l x))) := by
  obtain ⟨p, cap, rfl, hl, hm, hC⟩ := h
  unfold maxLen at hm
  have HC := Lib.hid hC
  clear hC
  go_enter Tryz.func27, Tryz.ntmps27
  go_wp2_with fail
  go_loopw [5] (fun i wr => ∃ k : Nat, k ≤ l.length ∧ i = .int .i64 k ∧ wr = w ∧ Hid (∀ j (hj : j < l.length), j < k → l[j] ≠ x)) (fun i _ => l.length - (intOf i).toNat)
  case atStart => exact ⟨0, by omega, rfl, rfl, Lib.hid (fun j hj h => absurd h (Nat.not_lt_zero _))⟩
  case round =>
    obtain ⟨k, hk, rfl, rfl, H⟩ := hrel
    by_cases hlt : k < l.length
    · obtain ⟨hx, b, o, rfl, c0⟩ := HC.out k hlt
      have hgo : l[k] ≠ x → ∀ j (hj : j < l.length), j < k + 1 → l[j] ≠ x := fun hf j hj hjk => by
        by_cases e : j = k
        · subst e; exact hf
        · exact H.out j hj (by omega)
      have hhit : l[k] = x → idxI l x = k := fun e => by
        unfold idxI
        rw [idxAt_some hlt e H.out]
        simp
      have Next := Lib.hid hgo
      have Hit := Lib.hid hhit
      clear hgo hhit
      generalize l[k] = y at *
      by_cases hxy : y = x
      · have E := Lib.hid (Hit.out hxy)
        have b1 : (y == x) = true := by simp [hxy]
        clear hxy
        go_wp2_with fail
        go_ret
        exact still_post (by rw [E.out]; rfl) rfl
      · have N := Lib.hid (Next.out hxy)
        have b1 : (y == x) = false := by simp; exact hxy
        clear hxy
        go_wp2_with fail
        go_round
        case rel => exact ⟨k + 1, by omega, by go_num, trivial, N⟩
        case measure => simp [intOf]; omega
    · have E : idxI l x = -1 := idxAt_none (fun j hj => H.out j hj (by omega))
      have E := Lib.hid E
      go_wp2_with fail
      go_ret
      exact still_post (by rw [E.out]; rfl) rfl

end Go.Fld
