import Derived.Test.YtcebdodogbpglaaRdQ
import Derived.Deep.Cut
set_option linter.unusedVariables false
set_option maxRecDepth 100000
/-! LISTS OF MESSAGES: fit, wide, alike. -/
namespace Go.Proofs.Ytcebdodogbpglaa.Rdr
open Go.ChangeShapes Go.WideShapes Go.ChangeAt Go.RowKit Mem Put

/-- A list of messages that is read, in memory of colours P. -/
def MsgsRd (L : Nat → Nat) (w : World) (P : Nat → Prop) (v : Value) (M : List Pair) : Prop :=
  ∃ (vs : List (Value × Value)) (c : Nat), P c ∧ vs.length = M.length ∧ Rd L c w 2 v M.length ((vs.map fun x => [x.1, x.2]).flatten) ∧
    ∀ i (h : i < M.length) (h2 : i < vs.length), (∃ c1, P c1 ∧ Rd L c1 w 1 vs[i].1 M[i].1.length (M[i].1.map byt)) ∧ (∃ c2, P c2 ∧ Rd L c2 w 1 vs[i].2 M[i].2.length (M[i].2.map byt))

theorem MsgsRd.step {L L' : Nat → Nat} {w w' : World} {C P : Nat → Prop} {v : Value} {M : List Pair} (h : MsgsRd L w P v M) (st : Step C L w L' w') (hC : ∀ d, C d → ¬ P d) : MsgsRd L' w' P v M := by
  obtain ⟨vs, c, h0, h1, h2, h3⟩ := h
  refine ⟨vs, c, h0, h1, h2.step st (fun hc => hC c hc h0), fun i hi hi2 => ?_⟩
  obtain ⟨⟨c1, p1, r1⟩, ⟨c2, p2, r2⟩⟩ := h3 i hi hi2
  exact ⟨⟨c1, p1, r1.step st (fun hc => hC c1 hc p1)⟩, ⟨c2, p2, r2.step st (fun hc => hC c2 hc p2)⟩⟩
theorem MsgsRd.drewN {L : Nat → Nat} {w : World} {P : Nat → Prop} {v : Value} {M : List Pair} (h : MsgsRd L w P v M) (k : Nat) : MsgsRd L (w.drewN k) P v M := h
theorem MsgsRd.shape {L : Nat → Nat} {w : World} {P : Nat → Prop} {v : Value} {M : List Pair} (h : MsgsRd L w P v M) : ∃ q cap, v = .slice q M.length cap ∧ M.length ≤ cap ∧ cap ≤ maxLen := by
  obtain ⟨vs, c, h0, h1, h2, h3⟩ := h
  exact h2.shape

theorem pairs_get (vs : List (Value × Value)) (i : Nat) (h : i < vs.length) : ((vs.map fun x => [x.1, x.2]).flatten)[i * 2]? = some vs[i].1 ∧ ((vs.map fun x => [x.1, x.2]).flatten)[i * 2 + 1]? = some vs[i].2 := by
  induction vs generalizing i with
  | nil => simp at h
  | cons x r ih =>
    cases i with
    | zero => simp
    | succ i =>
      have := ih i (by simpa using h)
      rw [show (i + 1) * 2 = i * 2 + 2 from by omega]
      simpa using this

theorem MsgsRd.cells {L : Nat → Nat} {w : World} {P : Nat → Prop} {q : Option Addr} {n cap : Nat} {M : List Pair} (h : MsgsRd L w P (.slice q n cap) M) {i : Nat} (hi : i < M.length) :
    ∃ b off p1 k1 p2 k2 c1 c2, q = some ⟨b, off, none⟩ ∧ w.cell? ⟨b, off + i * 2, none⟩ = some (.slice p1 M[i].1.length k1) ∧ w.cell? ⟨b, off + i * 2 + 1, none⟩ = some (.slice p2 M[i].2.length k2) ∧ k1 ≤ maxLen ∧ k2 ≤ maxLen ∧
      P c1 ∧ P c2 ∧ Rd L c1 w 1 (.slice p1 M[i].1.length k1) M[i].1.length (M[i].1.map byt) ∧ Rd L c2 w 1 (.slice p2 M[i].2.length k2) M[i].2.length (M[i].2.map byt) := by
  obtain ⟨vs, c, h0, h1, ⟨hl, q', cap', hv, hn, hm, hc⟩, h3⟩ := h
  have hi2 : i < vs.length := by omega
  obtain ⟨⟨c1, q1, r1⟩, ⟨c2, q2, r2⟩⟩ := h3 i hi hi2
  obtain ⟨g1, g2⟩ := pairs_get vs i hi2
  cases hv
  obtain ⟨b, off, hq, _, x1⟩ := hc _ _ g1
  obtain ⟨b', off', hq', _, x2⟩ := hc _ _ g2
  subst hq
  cases hq'
  obtain ⟨p1, k1, e1, _, m1⟩ := r1.shape
  obtain ⟨p2, k2, e2, _, m2⟩ := r2.shape
  rw [e1] at x1 r1
  rw [e2] at x2 r2
  exact ⟨b, off, p1, k1, p2, k2, c1, c2, rfl, x1, by rw [Nat.add_assoc]; exact x2, m1, m2, q1, q2, r1, r2⟩

def fitB (M : List Pair) : Bool := M.all fun m => decide (m.1.length ≤ 65536) && decide (m.2.length ≤ 4194304)

theorem fitB_false {M : List Pair} {k : Nat} (h : k < M.length) (hb : ¬ (M[k].1.length ≤ 65536 ∧ M[k].2.length ≤ 4194304)) : fitB M = false := by
  cases e : fitB M with
  | false => rfl
  | true =>
    have := List.all_eq_true.1 e M[k] (List.getElem_mem h)
    simp at this
    exact absurd this hb
theorem fitB_true {M : List Pair} (h : ∀ i (hi : i < M.length), M[i].1.length ≤ 65536 ∧ M[i].2.length ≤ 4194304) : fitB M = true := by
  apply List.all_eq_true.2
  intro x hx
  obtain ⟨j, hj, rfl⟩ := List.mem_iff_getElem.1 hx
  simp [h j hj]

theorem fit_calls {L : Nat → Nat} {w : World} {P : Nat → Prop} {v : Value} {M : List Pair} (h : MsgsRd L w P v M) :
    Calls Try.prog 29 #[v] w fun e w' => e = .returned (.bool (fitB M)) ∧ w' = w := by
  obtain ⟨q, cap, rfl, hn, hm⟩ := h.shape
  unfold maxLen at hm
  go_enter Try.func29, Try.ntmps29
  go_wp2_with fail
  go_loop [3] (fun i => ∃ k : Nat, k ≤ M.length ∧ i = .int .i64 k ∧ (∀ j (hj : j < M.length), j < k → M[j].1.length ≤ 65536 ∧ M[j].2.length ≤ 4194304)) (fun i => M.length - (intOf i).toNat)
  case atStart => exact ⟨0, by omega, rfl, fun j hj h => by omega⟩
  case round =>
    obtain ⟨k, hk, rfl, hA⟩ := hrel
    have HA := Lib.hid hA
    clear hA
    by_cases hlt : k < M.length
    · obtain ⟨b, off, p1, k1, p2, k2, c1, c2, hq, x1, x2, m1, m2, _⟩ := h.cells hlt
      subst hq
      obtain ⟨X, hX⟩ : ∃ X, X = M[k].1.length := ⟨_, rfl⟩
      obtain ⟨Y, hY⟩ : ∃ Y, Y = M[k].2.length := ⟨_, rfl⟩
      rw [← hX] at x1
      rw [← hY] at x2
      have HX := Lib.hid hX
      have HY := Lib.hid hY
      clear hX hY
      by_cases h1 : 65536 < X
      · have hF := fitB_false hlt (by rw [← HX.out]; omega)
        have HF := Lib.hid hF
        have z1 : decide ((65536 : Int) < X) = true := by simp; omega
        clear hF
        go_wp2_with fail
        go_ret
        exact ⟨by rw [HF.out]; rfl, rfl⟩
      · have z1 : decide ((65536 : Int) < X) = false := by simp; omega
        by_cases h2 : 4194304 < Y
        · have hF := fitB_false hlt (by rw [← HY.out]; omega)
          have HF := Lib.hid hF
          have z2 : decide ((4194304 : Int) < Y) = true := by simp; omega
          clear hF
          go_wp2_with fail
          go_ret
          exact ⟨by rw [HF.out]; rfl, rfl⟩
        · have z2 : decide ((4194304 : Int) < Y) = false := by simp; omega
          have hA2 : ∀ j (hj : j < M.length), j < k + 1 → M[j].1.length ≤ 65536 ∧ M[j].2.length ≤ 4194304 := fun j hj hjk => by
            by_cases e : j = k
            · subst e; rw [← HX.out, ← HY.out]; omega
            · exact HA.out j hj (by omega)
          have HA2 := Lib.hid hA2
          clear hA2
          go_wp2_with fail
          go_round
          case rel => exact ⟨k + 1, by omega, by go_num, HA2.out⟩
          case measure => simp [intOf]; omega
    · have hF := fitB_true (fun i hi => HA.out i hi (by omega))
      have HF := Lib.hid hF
      clear hF
      go_wp2_with fail
      go_ret
      exact ⟨by rw [HF.out]; rfl, rfl⟩

/-- How much messages are, put one behind the other, at most. -/
def tot (M : List Pair) : Nat := (M.map fun m => 64 + m.1.length + m.2.length).sum
theorem tot_take {M : List Pair} {k : Nat} (h : k < M.length) : tot (M.take (k + 1)) = tot (M.take k) + (64 + M[k].1.length + M[k].2.length) := by
  unfold tot
  rw [List.take_succ_eq_append_getElem h, List.map_append, List.sum_append_nat]; simp

def WidePost (M : List Pair) (w : World) (e : Ending) (w' : World) : Prop := ∃ b : Bool, e = .returned (.bool b) ∧ (b = false → tot M < 2147483648) ∧ ∃ k, w' = w.drewN k
theorem wide_calls {L : Nat → Nat} {w : World} {P : Nat → Prop} {v : Value} {M : List Pair} (h : MsgsRd L w P v M) (hf : Fits 65536 4194304 M) :
    Calls Try.prog 30 #[v] w (WidePost M w) := by
  obtain ⟨q, cap, rfl, hn, hm⟩ := h.shape
  unfold maxLen at hm
  go_enter Try.func30, Try.ntmps30
  go_wp2_with fail
  go_loopw [3, 4] (fun a i wr => ∃ k t q : Nat, k ≤ M.length ∧ i = .int .i64 k ∧ a = .int .i64 t ∧ t = tot (M.take k) ∧ (t : Int) ≤ 2152000000 ∧ wr = w.drewN q) (fun _ i _ => M.length - (intOf i).toNat)
  case atStart => exact ⟨0, 0, 0, by omega, rfl, rfl, rfl, by omega, rfl⟩
  case round =>
    obtain ⟨k, t, qq, hk, rfl, rfl, ht, htb, hwq⟩ := hrel
    have HT := Lib.hid ht
    clear ht
    by_cases hlt : k < M.length
    · by_cases h31 : (t : Int) < 2147483648
      · obtain ⟨b, off, p1, k1, p2, k2, c1, c2, hq, x1, x2, m1, m2, _⟩ := h.cells hlt
        subst hq
        have hfk := hf M[k] (List.getElem_mem hlt)
        have hts := tot_take hlt
        obtain ⟨X, hX⟩ : ∃ X, X = M[k].1.length := ⟨_, rfl⟩
        obtain ⟨Y, hY⟩ : ∃ Y, Y = M[k].2.length := ⟨_, rfl⟩
        rw [← hX] at x1 hfk hts
        rw [← hY] at x2 hfk hts
        rw [← HT.out] at hts
        have HTS := Lib.hid hts
        have y1 : wr.cell? ⟨b, off + k * 2, none⟩ = some (.slice p1 X k1) := by rw [hwq]; exact x1
        have y2 : wr.cell? ⟨b, off + k * 2 + 1, none⟩ = some (.slice p2 Y k2) := by rw [hwq]; exact x2
        have HWQ := Lib.hid hwq
        clear hX hY hts hwq x1 x2
        go_wp2_with fail
        go_quiet (fail)
        go_wp2_with fail
        go_roundw
        case rel => exact ⟨k + 1, t + (64 + X + Y), qq + nq, by omega, by go_num, by first | rfl | (congr 1; omega), HTS.out.symm, by omega, by rw [HWQ.out]; simp [World.drewN, Nat.add_assoc]⟩
        case measure => simp [intOf]; omega
      · have HWQ := Lib.hid hwq
        have z9 : decide ((2147483648 : Int) ≤ t) = true := by simp; omega
        clear hwq
        go_wp2_with fail
        go_ret
        exact ⟨true, by first | rfl | rw [z9], fun h => by (cases h), qq, HWQ.out⟩
    · have hkE : k = M.length := by omega
      have HWQ := Lib.hid hwq
      clear hwq
      by_cases h31 : (t : Int) < 2147483648
      · have hM : tot M = t := by rw [HT.out, List.take_of_length_le (by omega)]
        have HM := Lib.hid hM
        have z9 : decide ((2147483648 : Int) ≤ t) = false := by simp; omega
        clear hM
        go_wp2_with fail
        go_ret
        exact ⟨false, by first | rfl | rw [z9], fun _ => by rw [HM.out]; omega, qq, HWQ.out⟩
      · have z9 : decide ((2147483648 : Int) ≤ t) = true := by simp; omega
        go_wp2_with fail
        go_ret
        exact ⟨true, by first | rfl | rw [z9], fun h => by (cases h), qq, HWQ.out⟩

theorem alike_calls {L : Nat → Nat} {w : World} {P P2 : Nat → Prop} {v v2 : Value} {M M2 : List Pair} (h : MsgsRd L w P v M) (h2 : MsgsRd L w P2 v2 M2) (n : Nat) (hn : n ≤ M.length) (hn2 : n ≤ M2.length) (he : M.take n = M2.take n) :
    Calls Try.prog 33 #[v, v2, .int .i64 n] w fun e w' => e = .returned (.bool true) ∧ ∃ k, w' = w.drewN k := by
  obtain ⟨q, cap, rfl, hl, hm⟩ := h.shape
  obtain ⟨q2, cap2, rfl, hl2, hm2⟩ := h2.shape
  unfold maxLen at hm hm2
  have z1 : decide (M.length < n) = false := by simp; omega
  have z2 : decide (M2.length < n) = false := by simp; omega
  go_enter Try.func33, Try.ntmps33
  go_wp2_with fail
  go_loopw [7] (fun i wr => ∃ k q : Nat, k ≤ n ∧ i = .int .i64 k ∧ wr = w.drewN q) (fun i _ => n - (intOf i).toNat)
  case atStart => exact ⟨0, 0, by omega, rfl, rfl⟩
  case round =>
    obtain ⟨k, qq, hk, rfl, hwq⟩ := hrel
    by_cases hlt : k < n
    · obtain ⟨b, off, p1, k1, p2, k2, c1, c2, hq, x1, x2, _, _, _, _, r1, r2⟩ := h.cells (show k < M.length by omega)
      obtain ⟨b', off', p1', k1', p2', k2', c1', c2', hq', x1', x2', _, _, _, _, r1', r2'⟩ := h2.cells (show k < M2.length by omega)
      subst hq hq'
      have hkk : M[k]'(by omega) = M2[k]'(by omega) := by
        have := congrArg (fun l => l[k]?) he
        simp only [List.getElem?_take, hlt, if_true] at this
        rw [List.getElem?_eq_getElem (by omega), List.getElem?_eq_getElem (by omega)] at this
        exact Option.some.inj this
      rw [← hkk] at x1' x2' r1' r2'
      obtain ⟨m, hmk⟩ : ∃ m, m = M[k]'(by omega) := ⟨_, rfl⟩
      rw [← hmk] at x1 x2 r1 r2 x1' x2' r1' r2'
      clear hmk hkk
      have y1 : wr.cell? ⟨b, off + k * 2, none⟩ = some (.slice p1 m.1.length k1) := by rw [hwq]; exact x1
      have y2 : wr.cell? ⟨b, off + k * 2 + 1, none⟩ = some (.slice p2 m.2.length k2) := by rw [hwq]; exact x2
      have y1' : wr.cell? ⟨b', off' + k * 2, none⟩ = some (.slice p1' m.1.length k1') := by rw [hwq]; exact x1'
      have y2' : wr.cell? ⟨b', off' + k * 2 + 1, none⟩ = some (.slice p2' m.2.length k2') := by rw [hwq]; exact x2'
      have s1 : ∀ n, Calls Try.prog 12 #[.slice p1 m.1.length k1, .slice p1' m.1.length k1'] (wr.drewN n) fun e w'' => e = .returned (.bool true) ∧ ∃ q, w'' = wr.drewN q := fun n => by
        rw [hwq]
        exact quiet_more ((Ink.same_calls ((r1.drewN qq).drewN n) ((r1'.drewN qq).drewN n)).mono fun _ _ ⟨g1, g2⟩ => ⟨by rw [g1]; simp [Ink.sameB], g2⟩)
      have s2 : ∀ (W2 : World), (∃ q, W2 = w.drewN q) → ∀ n, Calls Try.prog 12 #[.slice p2 m.2.length k2, .slice p2' m.2.length k2'] (W2.drewN n) fun e w'' => e = .returned (.bool true) ∧ ∃ q, w'' = W2.drewN q := by
        rintro W2 ⟨q3, rfl⟩ n
        exact quiet_more ((Ink.same_calls ((r2.drewN q3).drewN n) ((r2'.drewN q3).drewN n)).mono fun _ _ ⟨g1, g2⟩ => ⟨by rw [g1]; simp [Ink.sameB], g2⟩)
      have HWQ := Lib.hid hwq
      have S1 := Lib.hid s1
      have S2 := Lib.hid s2
      clear hwq x1 x2 x1' x2' r1 r2 r1' r2' s1 s2
      go_wp2_with fail
      go_quiet (exact S1.out _)
      have y2w : (wr.drewN nq).cell? ⟨b, off + k * 2 + 1, none⟩ = some (.slice p2 m.2.length k2) := y2
      have y2w' : (wr.drewN nq).cell? ⟨b', off' + k * 2 + 1, none⟩ = some (.slice p2' m.2.length k2') := y2'
      have s3 := S2.out (wr.drewN nq) ⟨qq + nq, by rw [HWQ.out]; simp [World.drewN, Nat.add_assoc]⟩
      have S3 := Lib.hid s3
      have HWQ2 : ∃ q, wr.drewN nq = w.drewN q := ⟨qq + nq, by rw [HWQ.out]; simp [World.drewN, Nat.add_assoc]⟩
      have HWQ2 := Lib.hid HWQ2
      clear s3
      go_upto_region 7 with fail
      generalize wr.drewN nq = W2 at *
      go_quiet (exact S3.out _)
      go_wp2_with fail
      go_roundw
      case rel =>
        obtain ⟨q3, hq3⟩ := HWQ2.out
        exact ⟨k + 1, q3 + nq, by omega, by go_num, by rw [hq3]; simp [World.drewN, Nat.add_assoc]⟩
      case measure => simp [intOf]; omega
    · have HWQ := Lib.hid hwq
      clear hwq
      go_wp2_with fail
      go_ret
      exact ⟨rfl, qq, HWQ.out⟩

end Go.Proofs.Ytcebdodogbpglaa.Rdr
