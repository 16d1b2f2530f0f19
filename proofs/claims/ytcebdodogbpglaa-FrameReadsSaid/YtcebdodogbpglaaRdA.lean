import Derived.Test.YtcebdodogbpglaaPutG
set_option linter.unusedVariables false
set_option maxRecDepth 100000
/-! A NUMBER OF FOUR BYTES, LOOKED AT THROUGH A VIEW. -/
namespace Go.Proofs.Ytcebdodogbpglaa.Rdr
open Go.ChangeShapes Go.WideShapes Go.ChangeAt Go.RowKit Mem

def insideB (a n : Int) (len : Nat) : Bool := ((decide (0 ≤ a) && decide (0 ≤ n)) && decide (a ≤ len)) && decide (n ≤ len - a)

/-- The watch of a view, as the view holds it. -/
def wat (wp : Option Nat) : Value := .pointer (wp.map fun b => ⟨b, 0, none⟩)

theorem there_calls {w : World} (q : Option Addr) (n cap : Nat) (p : Int) (u : Value) (a m : Int) (hn : n ≤ 9223372036854775807) (ha : a ≤ 9223372036854775807) :
    Calls Try.prog 62 #[.agg #[.slice q n cap, .int .i64 p, u], .int .i64 a, .int .i64 m] w fun e w' => e = .returned (.bool (insideB a m n)) ∧ Below w.heap.size w w' := by
  have hb := below_alloc w (.cells #[.slice q n cap, .int .i64 p, u] 99)
  by_cases q1 : 0 ≤ a
  · by_cases q2 : 0 ≤ m
    · by_cases q3 : a ≤ n
      · by_cases q4 : m ≤ n - a
        · have hE : insideB a m n = true := by simp [insideB, q1, q2, q3, q4]
          have HE := Lib.hid hE
          clear hE
          go_enter Try.func62, Try.ntmps62
          go_wp2
          go_ret
          exact ⟨by rw [HE.out]; rfl, hb⟩
        · have hE : insideB a m n = false := by simp [insideB, q4]
          have HE := Lib.hid hE
          clear hE
          have q4' : decide (m ≤ n - a) = false := by simp; omega
          go_enter Try.func62, Try.ntmps62
          go_wp2
          go_ret
          exact ⟨by rw [HE.out]; rfl, hb⟩
      · have hE : insideB a m n = false := by simp [insideB, q3]
        have HE := Lib.hid hE
        clear hE
        have q3' : decide (a ≤ n) = false := by simp; omega
        go_enter Try.func62, Try.ntmps62
        go_wp2
        go_ret
        exact ⟨by rw [HE.out]; rfl, hb⟩
    · have hE : insideB a m n = false := by simp [insideB, q2]
      have HE := Lib.hid hE
      clear hE
      have q2' : decide (0 ≤ m) = false := by simp; omega
      go_enter Try.func62, Try.ntmps62
      go_wp2
      go_ret
      exact ⟨by rw [HE.out]; rfl, hb⟩
  · have hE : insideB a m n = false := by simp [insideB, q1]
    have HE := Lib.hid hE
    clear hE
    have q1' : decide (0 ≤ a) = false := by simp; omega
    go_enter Try.func62, Try.ntmps62
    go_wp2
    go_ret
    exact ⟨by rw [HE.out]; rfl, hb⟩

theorem of_calls {w : World} (q : Option Addr) (n cap : Nat) (hn : n ≤ cap) (hn2 : cap ≤ 9223372036854775807) :
    Calls Try.prog 58 #[.slice q n cap] w fun e w' => e = .returned (.agg #[.slice q n n, .int .i64 0, .pointer none]) ∧ Below w.heap.size w w' := by
  go_enter Try.func58, Try.ntmps58
  go_wp2
  exact bodyPost_ret (v := .agg #[.slice q n n, .int .i64 0, .pointer none]) (by simp [results, Try.results58, go_sem]) rfl ⟨rfl, below_alloc w _⟩

def cutAt (q : Option Addr) (a m : Nat) : Option Addr := if a + m = a then q else q.map (·.add a)

theorem insideB_true {a m : Int} {n : Nat} (h : insideB a m n = true) : ∃ x y : Nat, a = x ∧ m = y ∧ x + y ≤ n := by
  simp [insideB] at h
  exact ⟨a.toNat, m.toNat, by omega, by omega, by omega⟩

/-- A read that no watch is told of. -/
theorem read_quiet {w : World} (q : Option Addr) (n cap : Nat) (p : Int) (u : Option Addr) (a m : Nat) (hn : n ≤ cap) (hc : cap ≤ 9223372036854775807) (hm : a + m ≤ n) (hu : u = none ∨ m = 0) :
    Calls Try.prog 64 #[.agg #[.slice q n cap, .int .i64 p, .pointer u], .int .i64 a, .int .i64 m] w fun e w' => e = .returned (.slice (cutAt q a m) m m) ∧ Below w.heap.size w w' := by
  have hb := below_alloc w (.cells #[.slice q n cap, .int .i64 p, .pointer u] 99)
  by_cases hm0 : m = 0
  · subst hm0
    have hcut : cutAt q a 0 = q := by simp [cutAt]
    rw [hcut]
    cases u with
    | none =>
      go_enter Try.func64, Try.ntmps64
      go_wp2_with fail
      go_ret
      exact ⟨rfl, hb⟩
    | some ua =>
      go_enter Try.func64, Try.ntmps64
      go_wp2_with fail
      go_ret
      exact ⟨rfl, hb⟩
  · obtain rfl : u = none := by rcases hu with h | h; exact h; exact absurd h hm0
    have hcut : cutAt q a m = q.map (·.add a) := by unfold cutAt; rw [if_neg (by omega)]
    have HC := Lib.hid hcut
    clear hcut
    go_enter Try.func64, Try.ntmps64
    go_wp2_with fail
    go_ret
    exact ⟨by rw [HC.out]; rfl, hb⟩

/-- The number that stands in bytes, the lowest first. -/
def leV : List UInt8 → Nat
  | [] => 0
  | b :: r => b.toNat + 256 * leV r
theorem leV_lt (l : List UInt8) : leV l < 256 ^ l.length := by
  induction l with
  | nil => simp [leV]
  | cons b r ih =>
    have := b.toNat_lt
    simp only [leV, List.length_cons, Nat.pow_succ]
    omega
theorem leV_snoc (l : List UInt8) (b : UInt8) : leV (l ++ [b]) = leV l + b.toNat * 256 ^ l.length := by
  induction l with
  | nil => simp [leV]
  | cons a r ih =>
    simp only [List.cons_append, leV, ih, List.length_cons, Nat.pow_succ]
    rw [Nat.mul_add, Nat.mul_comm (256 ^ r.length) 256, ← Nat.mul_assoc, ← Nat.mul_assoc, Nat.mul_comm 256 b.toNat]
    omega

theorem or_step {bs : List UInt8} {k : Nat} (hk : k < bs.length) (hl : bs.length ≤ 8) :
    bits BinOp.or IntKind.u64 ((leV (bs.take k) : Nat) : Int) (IntKind.u64.wrap (IntKind.u64.wrap ((bs[k].toNat : Nat) : Int) * 2 ^ (8 * k))) = ((leV (bs.take (k + 1)) : Nat) : Int) := by
  have hb := bs[k].toNat_lt
  have hx := leV_lt (bs.take k)
  rw [List.length_take, Nat.min_eq_left (by omega)] at hx
  have hp : (256 : Nat) ^ k = 2 ^ (8 * k) := by rw [Nat.pow_mul]
  have h7 : (2 : Nat) ^ (8 * k) ≤ 2 ^ 56 := Nat.pow_le_pow_right (by decide) (by omega)
  have h8 : bs[k].toNat * 2 ^ (8 * k) < 18446744073709551616 := by
    calc bs[k].toNat * 2 ^ (8 * k) ≤ 255 * 2 ^ 56 := Nat.mul_le_mul (by omega) h7
      _ < _ := by decide
  have e1 : IntKind.u64.wrap ((bs[k].toNat : Nat) : Int) = ((bs[k].toNat : Nat) : Int) := IntWalk.u64_in _ (by omega)
  have e2 : ((bs[k].toNat : Nat) : Int) * 2 ^ (8 * k) = ((bs[k].toNat * 2 ^ (8 * k) : Nat) : Int) := by simp
  rw [e1, e2, IntWalk.u64_in _ (by omega), u64_or_nat _ _ (by rw [hp] at hx; omega) h8]
  congr 1
  rw [List.take_succ_eq_append_getElem hk, leV_snoc, List.length_take, Nat.min_eq_left (by omega), hp]
  have := Nat.two_pow_add_eq_or_of_lt (i := 8 * k) (b := leV (bs.take k)) (by rw [← hp]; exact hx) bs[k].toNat
  rw [Nat.or_comm, Nat.mul_comm, ← this]
  omega

theorem number_calls {L : Nat → Nat} {c : Nat} {w : World} {v : Value} {n : Nat} {bs : List UInt8} (hr : Rd L c w 1 v n (bs.map byt)) (hl : n ≤ 8) :
    Calls Try.prog 63 #[v] w fun e w' => e = .returned (.int .u64 (leV bs)) ∧ w = w' := by
  have hbl : bs.length = n := by simpa using hr.1
  subst hbl
  obtain ⟨p, cap, rfl, hn, hm⟩ := hr.shape
  go_enter Try.func63, Try.ntmps63
  go_wp2_with fail
  go_loop [3, 4, 5, 8] (fun x i0 c0 i => ∃ k : Nat, k ≤ bs.length ∧ i = .int .i64 k ∧ x = .int .u64 (leV (bs.take k))) (fun _ _ _ i => bs.length - (intOf i).toNat)
  case atStart => exact ⟨0, by omega, rfl, rfl⟩
  case round =>
    obtain ⟨k, hk, rfl, rfl⟩ := hrel
    by_cases hlt : k < bs.length
    · obtain ⟨b, off, rfl, _, e0⟩ := hr.at hlt
      go_wp2_with fail
      go_round
      case rel => exact ⟨k + 1, by omega, by go_num, by rw [or_step hlt hl]⟩
      case measure => simp [intOf]; omega
    · have e : bs.take k = bs := List.take_of_length_le (by omega)
      have E := Lib.hid e
      clear e
      go_wp2_with fail
      go_ret
      refine ⟨?_, rfl⟩
      show Ending.returned (.int .u64 (leV (bs.take k))) = _
      rw [E.out]

/-- A part of what is read. -/
theorem Rd.cut {L : Nat → Nat} {c : Nat} {w : World} {q : Option Addr} {n cap : Nat} {bs : List UInt8} (h : Rd L c w 1 (.slice q n cap) n (bs.map byt)) {a m : Nat} (hm : a + m ≤ n) (k : Nat) (hk : m ≤ k) (hk2 : k ≤ maxLen) :
    Rd L c w 1 (.slice (cutAt q a m) m k) m (((bs.drop a).take m).map byt) := by
  obtain ⟨h1, q', cap', hv, hn, hmx, hc⟩ := h
  cases hv
  have hbl : bs.length = n := by simpa using h1
  refine ⟨by simp; omega, _, _, rfl, hk, hk2, fun j u hj => ?_⟩
  have hjm : j < m := by
    have := (List.getElem?_eq_some_iff.1 hj).1
    simp at this; omega
  obtain ⟨b, off, rfl, hL, hcell⟩ := hc (a + j) u (by
    rw [← hj]
    simp only [List.getElem?_map, List.getElem?_take, List.getElem?_drop, hjm, if_true])
  unfold cutAt
  rw [if_neg (by omega)]
  exact ⟨b, off + a, by simp [add_lit], hL, by rw [Nat.add_assoc]; exact hcell⟩

theorem box_cells {w w1 : World} {x0 x1 x2 : Value} (hb : Below (w.alloc (.cells #[x0, x1, x2] 99)).heap.size (w.alloc (.cells #[x0, x1, x2] 99)) w1) :
    w1.cell? ⟨w.heap.size, 0, none⟩ = some x0 ∧ w1.cell? ⟨w.heap.size, 1, none⟩ = some x1 ∧ w1.cell? ⟨w.heap.size, 2, none⟩ = some x2 ∧ Below w.heap.size w w1 := by
  have e : ∀ o, w1.cell? ⟨w.heap.size, o, none⟩ = (w.alloc (.cells #[x0, x1, x2] 99)).cell? ⟨w.heap.size, o, none⟩ := fun o => hb.cell (p := ⟨w.heap.size, o, none⟩) (by simp)
  refine ⟨by rw [e]; simp, by rw [e]; simp, by rw [e]; simp, (below_alloc w _).trans (hb.mono (by simp))⟩


/-- Load of all four bytes of a view of four. -/
theorem load4_calls {L : Nat → Nat} {c0 : Nat} {w : World} {q : Option Addr} {bs : List UInt8}
    (hr : Rd L c0 w 1 (.slice q 4 4) 4 (bs.map byt)) :
    Calls Try.prog 59 #[.agg #[.slice q 4 4, .int .i64 0, .pointer none], .int .i64 0, .int .i64 4] w fun e w' => e = .returned (.tuple #[.int .u64 (leV bs), .int .i64 0]) ∧ Below w.heap.size w w' := by
  have hI : insideB (0 : Nat) (4 : Nat) 4 = true := by decide
  have hW : Ink.wideB 4 = true := by decide
  have HI := Lib.hid hI
  have HW := Lib.hid hW
  have hbl : bs.length = 4 := by simpa using hr.1
  have HB := Lib.hid hbl
  clear hI hW hbl
  go_enter Try.func59, Try.ntmps59
  go_wp2_with fail
  refine (Ink.wide_calls _ _).mono ?_; rintro e w1 ⟨rfl, rfl⟩
  rw [HW.out]
  go_wp2_with fail
  refine (there_calls q 4 4 0 _ (0 : Nat) (4 : Nat) (by omega) (by omega)).mono ?_; rintro e w1 ⟨rfl, b1⟩
  rw [HI.out]
  obtain ⟨d0, d1, d2, hb1⟩ := box_cells b1
  have HB1 := Lib.hid hb1
  clear hb1 b1
  have st1 := Step.of_below (L := L) HB1.out (fun _ => False) 0
  have hr1 := hr.step st1 (by simp)
  go_wp2_with fail
  refine (read_quiet q 4 4 0 none 0 4 (by omega) (by omega) (by omega) (.inl rfl)).mono ?_; rintro e w2 ⟨rfl, b2⟩
  have hr2 := (Rd.cut hr1 (a := 0) (m := 4) (by omega) 4 (Nat.le_refl _) (by unfold maxLen; omega)).step (Step.of_below (L := ext L w.heap.size 0) b2 (fun _ => False) 0) (by simp)
  have hbe : (bs.drop 0).take 4 = bs := by rw [List.drop_zero]; exact List.take_of_length_le (by rw [HB.out]; exact Nat.le_refl _)
  rw [hbe] at hr2
  clear hbe
  go_wp2_with fail
  refine (number_calls hr2 (by omega)).mono ?_; rintro e w3 ⟨rfl, rfl⟩
  go_wp2_with fail
  go_ret2
  exact ⟨rfl, HB1.out.trans (b2.mono HB1.out.size)⟩

/-- The program's number of four bytes. -/
theorem fnumber_calls {L : Nat → Nat} {c0 : Nat} {w : World} {q : Option Addr} {cap : Nat} {bs : List UInt8}
    (hr : Rd L c0 w 1 (.slice q 4 cap) 4 (bs.map byt)) :
    Calls Try.prog 51 #[.slice q 4 cap] w fun e w' => e = .returned (.int .i64 (leV bs)) ∧ Below w.heap.size w w' := by
  obtain ⟨_, _, hv, hn, hm⟩ := hr.shape
  cases hv
  unfold maxLen at hm
  have hbl : bs.length = 4 := by simpa using hr.1
  have hlt := leV_lt bs
  rw [hbl] at hlt
  obtain ⟨X, hX⟩ : ∃ X, X = leV bs := ⟨_, rfl⟩
  rw [← hX] at hlt ⊢
  have HX := Lib.hid hX
  have hlt2 : X < 4294967296 := hlt
  clear hX hlt hbl
  go_enter Try.func51, Try.ntmps51
  go_wp2_with fail
  refine (of_calls q 4 cap hn (by omega)).mono ?_; rintro e w1 ⟨rfl, b1⟩
  have st1 := Step.of_below (L := L) b1 (fun _ => False) 0
  have hr1 := hr.step st1 (by simp)
  have hr2 : Rd (ext L w.heap.size 0) c0 w1 1 (.slice q 4 4) 4 (bs.map byt) := by
    obtain ⟨h1, q', cap', hv, hn, hmx, hc⟩ := hr1
    cases hv
    exact ⟨h1, _, _, rfl, by omega, by unfold maxLen; omega, hc⟩
  go_wp2_with fail
  refine (load4_calls hr2).mono ?_; rintro e w2 ⟨rfl, b2⟩
  rw [← HX.out]
  go_wp2_with fail
  go_ret
  exact ⟨rfl, b1.trans (b2.mono b1.size)⟩

end Go.Proofs.Ytcebdodogbpglaa.Rdr
