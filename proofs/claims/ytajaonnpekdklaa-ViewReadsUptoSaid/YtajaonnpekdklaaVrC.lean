import Derived.Test.YtajaonnpekdklaaVrB
set_option linter.unusedVariables false
set_option maxRecDepth 100000
/-! LISTS OF READS: sameReads, marked. -/
namespace Go.Proofs.Ytajaonnpekdklaa.Vw
open Go.ChangeShapes Go.WideShapes Go.ChangeAt Go.RowKit Mem

theorem rdCells_get (l : List (Int × Int)) : ∀ {k : Nat} (hk : k < l.length), (rdCells l)[k * 2]? = some (.int .i64 l[k].1) ∧ (rdCells l)[k * 2 + 1]? = some (.int .i64 l[k].2) := by
  induction l with
  | nil => intro k hk; simp at hk
  | cons x r ih =>
    intro k hk
    have e : rdCells (x :: r) = .int .i64 x.1 :: .int .i64 x.2 :: rdCells r := rfl
    rw [e]
    cases k with
    | zero => exact ⟨rfl, rfl⟩
    | succ k =>
      have := ih (k := k) (by simpa using hk)
      rw [show (k + 1) * 2 = k * 2 + 1 + 1 by omega]
      simpa using this

theorem Rd.pair {L : Nat → Nat} {c : Nat} {w : World} {p : Option Addr} {n cap : Nat} {l : List (Int × Int)} (h : Rd L c w 2 (.slice p n cap) n (rdCells l)) {k : Nat} (hk : k < l.length) :
    ∃ b off, p = some ⟨b, off, none⟩ ∧ L b = c ∧ w.cell? ⟨b, off + k * 2, none⟩ = some (.int .i64 l[k].1) ∧ w.cell? ⟨b, off + k * 2 + 1, none⟩ = some (.int .i64 l[k].2) := by
  obtain ⟨hl, p', cap', hv, hn, hm, hcells⟩ := h
  cases hv
  obtain ⟨b, off, h1, h2, h3⟩ := hcells (k * 2) _ (rdCells_get l hk).1
  obtain ⟨b', off', h1', h2', h3'⟩ := hcells (k * 2 + 1) _ (rdCells_get l hk).2
  rw [h1] at h1'
  cases h1'
  exact ⟨b, off, h1, h2, h3, by rw [Nat.add_assoc]; exact h3'⟩

def sameR (a b : List (Int × Int)) : Bool := decide (a = b)

theorem sameReads_calls {L : Nat → Nat} {c1 c2 : Nat} {w : World} {va vb : Value} {xs bs : List (Int × Int)} (ha : Rd L c1 w 2 va xs.length (rdCells xs)) (hb : Rd L c2 w 2 vb bs.length (rdCells bs)) :
    Calls Try.prog 60 #[va, vb] w fun e w' => e = .returned (.bool (sameR xs bs)) ∧ ∃ k, w' = w.drewN k := by
  obtain ⟨pa, ca, rfl, hna, hma⟩ := ha.shape
  obtain ⟨pb, cb, rfl, hnb, hmb⟩ := hb.shape
  unfold maxLen at hma hmb
  by_cases hlen : xs.length = bs.length
  · have hle : ((xs.length : Int) != bs.length) = false := by simp [hlen]
    have HLEN := Lib.hid hlen
    clear hlen
    go_enter Try.func60, Try.ntmps60
    go_wp2_with fail
    go_loopw [5] (fun i wr => ∃ (k n : Nat), k ≤ xs.length ∧ i = .int .i64 k ∧ wr = w.drewN n ∧ xs.take k = bs.take k) (fun i _ => xs.length - (intOf i).toNat)
    case atStart => exact ⟨0, 0, by omega, rfl, rfl, rfl⟩
    case round =>
      obtain ⟨k, n, hk, rfl, rfl, hpre⟩ := hrel
      have HP := Lib.hid hpre
      clear hpre
      by_cases hlt : k < xs.length
      · have hlt2 : k < bs.length := by have := HLEN.out; omega
        obtain ⟨b1, o1, rfl, _, e1, e1'⟩ := Rd.pair ha hlt
        obtain ⟨b2, o2, rfl, _, e2, e2'⟩ := Rd.pair hb hlt2
        by_cases heq : xs[k] = bs[k]
        · have hne1 : (xs[k].1 != bs[k].1) = false := by simp [heq]
          have hne2 : (xs[k].2 != bs[k].2) = false := by simp [heq]
          have heq1 : (xs[k].1 == bs[k].1) = true := by simp [heq]
          have heq2 : (xs[k].2 == bs[k].2) = true := by simp [heq]
          have HEQ := Lib.hid heq
          clear heq
          go_wp2_with fail
          go_quiet (fail)
          go_wp2_with fail
          go_roundw
          case rel => exact ⟨k + 1, _, by omega, by go_num, rfl, by rw [List.take_succ_eq_append_getElem hlt, List.take_succ_eq_append_getElem hlt2, HP.out, HEQ.out]⟩
          case measure => simp [intOf]; omega
        · have hs : sameR xs bs = false := by
            unfold sameR; rw [decide_eq_false_iff_not]; intro e; subst e; exact heq rfl
          have HS := Lib.hid hs
          have hpp : xs[k].1 ≠ bs[k].1 ∨ xs[k].2 ≠ bs[k].2 := by
            by_cases h1 : xs[k].1 = bs[k].1
            · right; intro h2; exact heq (Prod.ext h1 h2)
            · exact .inl h1
          by_cases h1 : xs[k].1 = bs[k].1
          · have h2 : ¬ (xs[k].2 = bs[k].2) := by rcases hpp with h | h; exact absurd h1 h; exact h
            have hne1 : (xs[k].1 == bs[k].1) = true := by simpa using h1
            have hne2 : (xs[k].2 == bs[k].2) = false := by simpa using h2
            clear h1 h2 hpp hs heq
            go_wp2_with fail
            go_quiet (fail)
            go_wp2_with fail
            go_ret
            exact ⟨by rw [HS.out]; rfl, n + _, by rw [← World.drewN_drewN]⟩
          · have hne1 : (xs[k].1 == bs[k].1) = false := by simpa using h1
            clear h1 hpp hs heq
            go_wp2_with fail
            go_quiet (fail)
            go_wp2_with fail
            go_ret
            exact ⟨by rw [HS.out]; rfl, n + _, by rw [← World.drewN_drewN]⟩
      · have hs : sameR xs bs = true := by
          unfold sameR; rw [decide_eq_true_iff]
          have h1 := HP.out
          have h2 := HLEN.out
          rwa [List.take_of_length_le (by omega), List.take_of_length_le (by omega)] at h1
        have HS := Lib.hid hs
        clear hs
        go_wp2_with fail
        go_ret
        exact ⟨by rw [HS.out]; rfl, _, rfl⟩
  · have hle : ((xs.length : Int) != bs.length) = true := by simp; omega
    have hs : sameR xs bs = false := by
      unfold sameR; rw [decide_eq_false_iff_not]; intro e; subst e; exact hlen rfl
    have HS := Lib.hid hs
    clear hs hlen
    go_enter Try.func60, Try.ntmps60
    go_wp2_with fail
    go_ret
    exact ⟨by rw [HS.out]; rfl, 0, rfl⟩

def markedB (l : List (Int × Int)) (m : Int) : Bool := decide (l = List.replicate l.length (m, m))

theorem marked_calls {L : Nat → Nat} {c1 : Nat} {w : World} {va : Value} {l : List (Int × Int)} (m : Int) (ha : Rd L c1 w 2 va l.length (rdCells l)) (hl : l = List.replicate l.length (m, m)) :
    Calls Try.prog 61 #[va, .int .i64 m] w fun e w' => e = .returned (.bool true) ∧ w = w' := by
  obtain ⟨pa, ca, rfl, hna, hma⟩ := ha.shape
  unfold maxLen at hma
  have HL := Lib.hid hl
  clear hl
  have hmm : (m != m) = false := by simp
  go_enter Try.func61, Try.ntmps61
  go_wp2_with fail
  go_loop [5] (fun i => ∃ (k : Nat), k ≤ l.length ∧ i = .int .i64 k) (fun i => l.length - (intOf i).toNat)
  case atStart => exact ⟨0, by omega, rfl⟩
  case round =>
    obtain ⟨k, hk, rfl⟩ := hrel
    by_cases hlt : k < l.length
    · obtain ⟨b1, o1, rfl, _, e1, e2⟩ := Rd.pair ha hlt
      have hx : l[k] = (m, m) := by
        have : l[k]? = some (m, m) := by rw [HL.out]; simp [hlt]
        simpa [hlt] using this
      rw [hx] at e1 e2
      clear hx
      go_wp2_with fail
      go_round
      case rel => exact ⟨k + 1, by omega, by go_num⟩
      case measure => simp [intOf]; omega
    · go_wp2_with fail
      go_ret
      exact ⟨rfl, rfl⟩

end Go.Proofs.Ytajaonnpekdklaa.Vw
