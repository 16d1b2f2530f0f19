import Derived.Test.YtcebdodogbpglaaRdC
set_option linter.unusedVariables false
set_option maxRecDepth 100000
/-! THE REFERENCE: a mark, a number, what a beginning is judged. -/
namespace Go.Proofs.Ytcebdodogbpglaa.Rdr
open Go.ChangeShapes Go.WideShapes Go.ChangeAt Go.RowKit Mem Put

theorem index3 {k : Nat} (hk : k < 3) (wx : World) : (Instr.index 9 (.string { data := #[67, 79, 76] }) (.int .i64 (k : Int))).run Try.prog wx = .ok (.int .u8 ((m1 k : Nat) : Int)) wx := by
  have hs : ({ data := #[67, 79, 76] } : ByteArray).size = 3 := rfl
  rw [run_index_string wx 9 _ .i64 k Try.underlying9, dif_pos ⟨by omega, by omega⟩]
  rcases (by omega : k = 0 ∨ k = 1 ∨ k = 2) with rfl | rfl | rfl <;> rfl

theorem bad_markB {bs : List UInt8} {k : Nat} (hk : k < bs.length) (h4 : k < 4) (hx : okM k bs[k] = false) : markB bs = false := by
  cases h : markB bs with
  | false => rfl
  | true => have := markB_iff.1 h k hk h4; rw [hx] at this; cases this

theorem marked_calls {L : Nat → Nat} {c : Nat} {w : World} {q : Option Addr} {n cap : Nat} {bs : List UInt8} (hr : Rd L c w 1 (.slice q n cap) n (bs.map byt)) :
    Calls Try.prog 60 #[.slice q n cap] w fun e w' => e = .returned (.int .i64 (if markB bs = false then 70 else 0)) ∧ ∃ k, w' = w.drewN k := by
  have hbl : bs.length = n := by simpa using hr.1
  subst hbl
  obtain ⟨_, _, hv, hn, hm⟩ := hr.shape
  cases hv
  unfold maxLen at hm
  obtain ⟨R, hR⟩ : ∃ R : Int, R = if markB bs = false then 70 else 0 := ⟨_, rfl⟩
  rw [← hR]
  have HR := Lib.hid hR
  clear hR
  go_enter Try.func60, Try.ntmps60
  go_wp2_with fail
  go_loopw [4] (fun i wr => ∃ k q : Nat, k ≤ bs.length ∧ k ≤ 4 ∧ i = .int .i64 k ∧ wr = w.drewN q ∧ OkTo bs k) (fun i _ => 4 - (intOf i).toNat)
  case atStart => exact ⟨0, 0, by omega, by omega, rfl, rfl, fun i hi h => by omega⟩
  case round =>
    obtain ⟨k, qq, hk, hk4', rfl, hwq, hO⟩ := hrel
    have HO := Lib.hid hO
    clear hO
    by_cases hkl : k < bs.length
    · by_cases hk4 : k < 4
      · have HM := Lib.hid (okM_iff hk4 (bs[k]))
        obtain ⟨b, off, rfl, _, e0⟩ := hr.at hkl
        have er : wr.cell? ⟨b, off + k, none⟩ = some (.int .u8 ((bs[k]).toNat : Int)) := by rw [hwq]; exact e0
        have HWQ := Lib.hid hwq
        clear hwq e0
        obtain ⟨X, hX⟩ : ∃ X : Nat, X = (bs[k]).toNat := ⟨_, rfl⟩
        rw [← hX] at er HM
        clear hX
        have hgood : (X = m1 k ∨ X = m2 k) → OkTo bs (k + 1) := fun h => HO.out.succ hkl (HM.out.2 h)
        have hbad : ¬ (X = m1 k ∨ X = m2 k) → R = 70 := fun h => by rw [HR.out, if_pos (bad_markB hkl hk4 (Bool.eq_false_iff.2 fun h1 => h (HM.out.1 h1)))]
        have HG := Lib.hid hgood
        have HBD := Lib.hid hbad
        clear hgood hbad HM
        by_cases h3 : k < 3
        · have i1 := fun wx => index3 h3 wx
          have hm12 : m1 k = m2 k := by rcases (by omega : k = 0 ∨ k = 1 ∨ k = 2) with rfl | rfl | rfl <;> rfl
          obtain ⟨c1, hc1⟩ : ∃ c : Nat, c = m1 k := ⟨_, rfl⟩
          rw [← hc1] at i1
          have HC := Lib.hid hc1
          have HMM := Lib.hid hm12
          clear hc1 hm12
          have k1 : decide ((k : Int) < 3) = true := by simp; omega
          have k2 : ((k : Int) == 3) = false := by simp; omega
          by_cases h1 : X = c1
          · have hO2 := HG.out (.inl (h1.trans HC.out))
            have HO2 := Lib.hid hO2
            subst h1
            have x1 : ((X : Int) != (X : Int)) = false := by simp
            clear hO2
            go_wp2_with fail
            go_quiet (fail)
            go_wp2_with fail
            go_roundw
            case rel => exact ⟨k + 1, qq + nq, by omega, by omega, by go_num, by rw [HWQ.out]; simp [World.drewN, Nat.add_assoc], HO2.out⟩
            case measure => simp [intOf]; omega
          · have hBad := HBD.out (fun h => h1 (by rw [HC.out]; rcases h with h | h; exact h; rw [h, HMM.out]))
            have HB := Lib.hid hBad
            have h4 : ¬ (X : Int) = c1 := by omega
            have x1 : ((X : Int) != (c1 : Int)) = true := by simpa using h4
            clear hBad
            go_wp2_with fail
            go_quiet (fail)
            go_wp2_with fail
            go_ret
            exact ⟨by rw [HB.out]; rfl, qq + nq, by rw [HWQ.out]; simp [World.drewN, Nat.add_assoc]⟩
        · obtain rfl : k = 3 := by omega
          by_cases h1 : X = 48
          · subst h1
            have hO2 := HG.out (.inr rfl)
            have HO2 := Lib.hid hO2
            clear hO2
            go_wp2_with fail
            go_quiet (fail)
            go_wp2_with fail
            go_roundw
            case rel => exact ⟨4, qq + nq, by omega, by omega, by go_num, by rw [HWQ.out]; simp [World.drewN, Nat.add_assoc], HO2.out⟩
            case measure => simp [intOf]
          · by_cases h2 : X = 49
            · subst h2
              have hO2 := HG.out (.inl rfl)
              have HO2 := Lib.hid hO2
              clear hO2
              go_wp2_with fail
              go_quiet (fail)
              go_wp2_with fail
              go_roundw
              case rel => exact ⟨4, qq + nq, by omega, by omega, by go_num, by rw [HWQ.out]; simp [World.drewN, Nat.add_assoc], HO2.out⟩
              case measure => simp [intOf]
            · have hBad := HBD.out (fun h => h.elim h2 h1)
              have HB := Lib.hid hBad
              have x1 : ((X : Int) != 48) = true := by simp; omega
              have x2 : ((X : Int) != 49) = true := by simp; omega
              clear hBad
              go_wp2_with fail
              go_quiet (fail)
              go_wp2_with fail
              go_ret
              exact ⟨by rw [HB.out]; rfl, qq + nq, by rw [HWQ.out]; simp [World.drewN, Nat.add_assoc]⟩
      · have hkE : k = 4 := by omega
        subst hkE
        have hE : R = 0 := by rw [HR.out, HO.out.mark (.inl (Nat.le_refl _))]; rfl
        have HE := Lib.hid hE
        have HWQ := Lib.hid hwq
        clear hE hwq
        go_wp2_with fail
        go_ret
        exact ⟨by rw [HE.out]; rfl, qq, HWQ.out⟩
    · have hE : R = 0 := by rw [HR.out, HO.out.mark (.inr (by omega))]; rfl
      have HE := Lib.hid hE
      have HWQ := Lib.hid hwq
      clear hE hwq
      go_wp2_with fail
      go_ret
      exact ⟨by rw [HE.out]; rfl, qq, HWQ.out⟩

theorem rnumber_calls {L : Nat → Nat} {c0 : Nat} {w : World} {q : Option Addr} {m cap : Nat} {bs : List UInt8} (h4 : 4 ≤ m)
    (hr : Rd L c0 w 1 (.slice q m cap) m (bs.map byt)) :
    Calls Try.prog 54 #[.slice q m cap] w fun e w' => e = .returned (.int .i64 (n4 bs 0)) ∧ ∃ k, w' = w.drewN k := by
  obtain ⟨_, _, hv, hn, hm⟩ := hr.shape
  cases hv
  unfold maxLen at hm
  have hbl : bs.length = m := by simpa using hr.1
  subst hbl
  obtain ⟨b, off, rfl, _, e0⟩ := hr.at (show 0 < bs.length by omega)
  obtain ⟨_, _, hq, _, e1⟩ := hr.at (show 1 < bs.length by omega)
  cases hq
  obtain ⟨_, _, hq, _, e2⟩ := hr.at (show 2 < bs.length by omega)
  cases hq
  obtain ⟨_, _, hq, _, e3⟩ := hr.at (show 3 < bs.length by omega)
  cases hq
  have hN : n4 bs 0 = bs[0].toNat + bs[1].toNat * 256 + bs[2].toNat * 65536 + bs[3].toNat * 16777216 := by
    match bs, h4 with
    | a :: b :: c :: d :: r, h => simp [n4, leV]; omega
  have HN := Lib.hid hN
  have l0 := bs[0].toNat_lt
  have l1 := bs[1].toNat_lt
  have l2 := bs[2].toNat_lt
  have l3 := bs[3].toNat_lt
  obtain ⟨x0, hx0⟩ : ∃ x, x = bs[0].toNat := ⟨_, rfl⟩
  obtain ⟨x1, hx1⟩ : ∃ x, x = bs[1].toNat := ⟨_, rfl⟩
  obtain ⟨x2, hx2⟩ : ∃ x, x = bs[2].toNat := ⟨_, rfl⟩
  obtain ⟨x3, hx3⟩ : ∃ x, x = bs[3].toNat := ⟨_, rfl⟩
  rw [← hx0] at e0 l0 HN
  rw [← hx1] at e1 l1 HN
  rw [← hx2] at e2 l2 HN
  rw [← hx3] at e3 l3 HN
  rw [Nat.add_zero] at e0
  clear hN hx0 hx1 hx2 hx3 hr
  go_enter Try.func54, Try.ntmps54
  go_wp2_with fail
  go_quiet (fail)
  go_wp2_with fail
  go_ret
  exact ⟨by rw [HN.out]; simp, _, rfl⟩

def judgeN (b : List UInt8) (lm lb : Nat) : Nat := if lookE b lm lb = 0 ∧ 16 ≤ b.length ∧ sizeV b ≤ b.length then sizeV b else 0

end Go.Proofs.Ytcebdodogbpglaa.Rdr
