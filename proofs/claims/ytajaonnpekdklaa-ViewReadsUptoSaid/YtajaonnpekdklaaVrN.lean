import Derived.Test.YtajaonnpekdklaaVrM
set_option linter.unusedVariables false
set_option maxRecDepth 100000
/-! Numbers, good and bad in one (printed by wip/tools/vrn.py). -/
namespace Go.Proofs.Ytajaonnpekdklaa.Vr
open Go.ChangeShapes Go.WideShapes Go.ChangeAt Go.RowKit Mem Vw

def numE (len : Nat) (a n : Int) (W : Nat) : Int := if numB len a n W then 0 else 2
def numL (bs : List UInt8) (a n : Int) (W : Nat) : List Nat := if numB bs.length a n W then nums bs a.toNat W n.toNat else []
def numT (l : List (Int × Int)) (len : Nat) (p a n : Int) (W : Nat) : List (Int × Int) := if numB len a n W then tell l p a.toNat (n.toNat * W) else l

theorem vnum0 {L : Nat → Nat} {c cw c0 : Nat} (hcc : c0 ≠ cw) (hc : c ≠ cw) (hc0 : c0 ≠ c) {w : World} {u : Option Nat} {l : List (Int × Int)} (hW : WOpt L cw w u l) (hl : l.length ≤ 1000000000000) {q : Option Addr} {n cap : Nat} {bs : List UInt8}
    (hr : Rd L c0 w 1 (.slice q n cap) n (bs.map byt)) (p : Int) (hp : 0 ≤ p) (hp2 : p + n ≤ 9223372036854775807) (hn : n ≤ 1000000000) (a m : Int) (ha : -9223372036854775808 ≤ a) (ha2 : a ≤ 9223372036854775807) (hm : -9223372036854775808 ≤ m) :
    Calls Try.prog 67 #[.agg #[.slice q n cap, .int .i64 p, wat u], .int .i64 a, .int .i64 m] w fun r w' => ∃ v', r = .returned (.tuple #[v', .int .i64 (numE bs.length a m 1)]) ∧ ∃ L', Step (fun d => d = cw ∨ d = c) L w L' w' ∧ WOpt L' cw w' u (numT l bs.length p a m 1) ∧
      Own L' c w' 5 1 v' (numL bs a m 1).length ((numL bs a m 1).map (numVal .u8)) := by
  have hbl : bs.length = n := by simpa using hr.1
  by_cases hb : numB bs.length a m 1 = true
  · obtain ⟨x, y, rfl, rfl, hxy⟩ := numB_true hb
    rw [numE, if_pos hb, numT, if_pos hb, numL, if_pos hb]
    refine (numbers0_yes hcc hc hc0 hW hl hr p hp hp2 x y (by omega) hn).mono ?_
    rintro r w' ⟨v', rfl, L', st, h1, h2⟩
    exact ⟨v', rfl, L', st, h1, by simpa [nums_length] using h2⟩
  · rw [numE, if_neg hb, numT, if_neg hb, numL, if_neg hb]
    refine (numbers0_no q n cap p (wat u) a m (by omega) (by rw [← hbl]; simpa using hb) ha hm ha2).mono ?_
    rintro r w' ⟨rfl, bl⟩
    have st := Step.of_below (L := L) bl (fun _ => False) 0
    exact ⟨_, rfl, _, st.mono (fun _ h => h.elim), hW.step st (fun h => h), Own.nil _ _ _ _ _⟩

theorem rnum1 {L : Nat → Nat} {c c0 : Nat} (hcc : c0 ≠ c) (hc : 0 ≠ c) {w : World} {q : Option Addr} {n cap : Nat} {bs : List UInt8} (hr : Rd L c0 w 1 (.slice q n cap) n (bs.map byt)) (p : Int) (hn : n ≤ 1000000000)
    (a m : Int) (ha : -9223372036854775808 ≤ a) (ha2 : a ≤ 9223372036854775807) (hm : -9223372036854775808 ≤ m) :
    Calls Try.prog 66 #[.agg #[.slice q n cap, .int .i64 p], .int .i64 a, .int .i64 m, .int .i64 1] w fun r w' => ∃ v', r = .returned (.tuple #[v', .int .i64 (numE bs.length a m 1)]) ∧ ∃ L', Step (· = c) L w L' w' ∧ Own L' c w' 34 1 v' (numL bs a m 1).length ((numL bs a m 1).map (numVal .u64)) := by
  have hbl : bs.length = n := by simpa using hr.1
  by_cases hb : numB bs.length a m 1 = true
  · obtain ⟨x, y, rfl, rfl, hxy⟩ := numB_true hb
    rw [numE, if_pos hb, numL, if_pos hb]
    refine (rnumbers1_yes hcc hc hr p x y (by omega) hn).mono ?_
    rintro r w' ⟨v', rfl, L', st, h2⟩
    exact ⟨v', rfl, L', st, by simpa [nums_length] using h2⟩
  · rw [numE, if_neg hb, numL, if_neg hb]
    refine (rnumbers1_no q n cap p a m (by omega) (by rw [← hbl]; simpa using hb) ha ha2 hm).mono ?_
    rintro r w' ⟨rfl, bl⟩
    have st := Step.of_below (L := L) bl (fun _ => False) 0
    exact ⟨_, rfl, _, st.mono (fun _ h => h.elim), Own.nil _ _ _ _ _⟩

theorem vnum1 {L : Nat → Nat} {c cw c0 : Nat} (hcc : c0 ≠ cw) (hc : c ≠ cw) (hc0 : c0 ≠ c) {w : World} {u : Option Nat} {l : List (Int × Int)} (hW : WOpt L cw w u l) (hl : l.length ≤ 1000000000000) {q : Option Addr} {n cap : Nat} {bs : List UInt8}
    (hr : Rd L c0 w 1 (.slice q n cap) n (bs.map byt)) (p : Int) (hp : 0 ≤ p) (hp2 : p + n ≤ 9223372036854775807) (hn : n ≤ 1000000000) (a m : Int) (ha : -9223372036854775808 ≤ a) (ha2 : a ≤ 9223372036854775807) (hm : -9223372036854775808 ≤ m) :
    Calls Try.prog 68 #[.agg #[.slice q n cap, .int .i64 p, wat u], .int .i64 a, .int .i64 m] w fun r w' => ∃ v', r = .returned (.tuple #[v', .int .i64 (numE bs.length a m 2)]) ∧ ∃ L', Step (fun d => d = cw ∨ d = c) L w L' w' ∧ WOpt L' cw w' u (numT l bs.length p a m 2) ∧
      Own L' c w' 118 1 v' (numL bs a m 2).length ((numL bs a m 2).map (numVal .u16)) := by
  have hbl : bs.length = n := by simpa using hr.1
  by_cases hb : numB bs.length a m 2 = true
  · obtain ⟨x, y, rfl, rfl, hxy⟩ := numB_true hb
    rw [numE, if_pos hb, numT, if_pos hb, numL, if_pos hb]
    refine (numbers1_yes hcc hc hc0 hW hl hr p hp hp2 x y (by omega) hn).mono ?_
    rintro r w' ⟨v', rfl, L', st, h1, h2⟩
    exact ⟨v', rfl, L', st, h1, by simpa [nums_length] using h2⟩
  · rw [numE, if_neg hb, numT, if_neg hb, numL, if_neg hb]
    refine (numbers1_no q n cap p (wat u) a m (by omega) (by rw [← hbl]; simpa using hb) ha hm ha2).mono ?_
    rintro r w' ⟨rfl, bl⟩
    have st := Step.of_below (L := L) bl (fun _ => False) 0
    exact ⟨_, rfl, _, st.mono (fun _ h => h.elim), hW.step st (fun h => h), Own.nil _ _ _ _ _⟩

theorem rnum2 {L : Nat → Nat} {c c0 : Nat} (hcc : c0 ≠ c) (hc : 0 ≠ c) {w : World} {q : Option Addr} {n cap : Nat} {bs : List UInt8} (hr : Rd L c0 w 1 (.slice q n cap) n (bs.map byt)) (p : Int) (hn : n ≤ 1000000000)
    (a m : Int) (ha : -9223372036854775808 ≤ a) (ha2 : a ≤ 9223372036854775807) (hm : -9223372036854775808 ≤ m) :
    Calls Try.prog 66 #[.agg #[.slice q n cap, .int .i64 p], .int .i64 a, .int .i64 m, .int .i64 2] w fun r w' => ∃ v', r = .returned (.tuple #[v', .int .i64 (numE bs.length a m 2)]) ∧ ∃ L', Step (· = c) L w L' w' ∧ Own L' c w' 34 1 v' (numL bs a m 2).length ((numL bs a m 2).map (numVal .u64)) := by
  have hbl : bs.length = n := by simpa using hr.1
  by_cases hb : numB bs.length a m 2 = true
  · obtain ⟨x, y, rfl, rfl, hxy⟩ := numB_true hb
    rw [numE, if_pos hb, numL, if_pos hb]
    refine (rnumbers2_yes hcc hc hr p x y (by omega) hn).mono ?_
    rintro r w' ⟨v', rfl, L', st, h2⟩
    exact ⟨v', rfl, L', st, by simpa [nums_length] using h2⟩
  · rw [numE, if_neg hb, numL, if_neg hb]
    refine (rnumbers2_no q n cap p a m (by omega) (by rw [← hbl]; simpa using hb) ha ha2 hm).mono ?_
    rintro r w' ⟨rfl, bl⟩
    have st := Step.of_below (L := L) bl (fun _ => False) 0
    exact ⟨_, rfl, _, st.mono (fun _ h => h.elim), Own.nil _ _ _ _ _⟩

theorem vnum2 {L : Nat → Nat} {c cw c0 : Nat} (hcc : c0 ≠ cw) (hc : c ≠ cw) (hc0 : c0 ≠ c) {w : World} {u : Option Nat} {l : List (Int × Int)} (hW : WOpt L cw w u l) (hl : l.length ≤ 1000000000000) {q : Option Addr} {n cap : Nat} {bs : List UInt8}
    (hr : Rd L c0 w 1 (.slice q n cap) n (bs.map byt)) (p : Int) (hp : 0 ≤ p) (hp2 : p + n ≤ 9223372036854775807) (hn : n ≤ 1000000000) (a m : Int) (ha : -9223372036854775808 ≤ a) (ha2 : a ≤ 9223372036854775807) (hm : -9223372036854775808 ≤ m) :
    Calls Try.prog 69 #[.agg #[.slice q n cap, .int .i64 p, wat u], .int .i64 a, .int .i64 m] w fun r w' => ∃ v', r = .returned (.tuple #[v', .int .i64 (numE bs.length a m 4)]) ∧ ∃ L', Step (fun d => d = cw ∨ d = c) L w L' w' ∧ WOpt L' cw w' u (numT l bs.length p a m 4) ∧
      Own L' c w' 120 1 v' (numL bs a m 4).length ((numL bs a m 4).map (numVal .u32)) := by
  have hbl : bs.length = n := by simpa using hr.1
  by_cases hb : numB bs.length a m 4 = true
  · obtain ⟨x, y, rfl, rfl, hxy⟩ := numB_true hb
    rw [numE, if_pos hb, numT, if_pos hb, numL, if_pos hb]
    refine (numbers2_yes hcc hc hc0 hW hl hr p hp hp2 x y (by omega) hn).mono ?_
    rintro r w' ⟨v', rfl, L', st, h1, h2⟩
    exact ⟨v', rfl, L', st, h1, by simpa [nums_length] using h2⟩
  · rw [numE, if_neg hb, numT, if_neg hb, numL, if_neg hb]
    refine (numbers2_no q n cap p (wat u) a m (by omega) (by rw [← hbl]; simpa using hb) ha hm ha2).mono ?_
    rintro r w' ⟨rfl, bl⟩
    have st := Step.of_below (L := L) bl (fun _ => False) 0
    exact ⟨_, rfl, _, st.mono (fun _ h => h.elim), hW.step st (fun h => h), Own.nil _ _ _ _ _⟩

theorem rnum4 {L : Nat → Nat} {c c0 : Nat} (hcc : c0 ≠ c) (hc : 0 ≠ c) {w : World} {q : Option Addr} {n cap : Nat} {bs : List UInt8} (hr : Rd L c0 w 1 (.slice q n cap) n (bs.map byt)) (p : Int) (hn : n ≤ 1000000000)
    (a m : Int) (ha : -9223372036854775808 ≤ a) (ha2 : a ≤ 9223372036854775807) (hm : -9223372036854775808 ≤ m) :
    Calls Try.prog 66 #[.agg #[.slice q n cap, .int .i64 p], .int .i64 a, .int .i64 m, .int .i64 4] w fun r w' => ∃ v', r = .returned (.tuple #[v', .int .i64 (numE bs.length a m 4)]) ∧ ∃ L', Step (· = c) L w L' w' ∧ Own L' c w' 34 1 v' (numL bs a m 4).length ((numL bs a m 4).map (numVal .u64)) := by
  have hbl : bs.length = n := by simpa using hr.1
  by_cases hb : numB bs.length a m 4 = true
  · obtain ⟨x, y, rfl, rfl, hxy⟩ := numB_true hb
    rw [numE, if_pos hb, numL, if_pos hb]
    refine (rnumbers4_yes hcc hc hr p x y (by omega) hn).mono ?_
    rintro r w' ⟨v', rfl, L', st, h2⟩
    exact ⟨v', rfl, L', st, by simpa [nums_length] using h2⟩
  · rw [numE, if_neg hb, numL, if_neg hb]
    refine (rnumbers4_no q n cap p a m (by omega) (by rw [← hbl]; simpa using hb) ha ha2 hm).mono ?_
    rintro r w' ⟨rfl, bl⟩
    have st := Step.of_below (L := L) bl (fun _ => False) 0
    exact ⟨_, rfl, _, st.mono (fun _ h => h.elim), Own.nil _ _ _ _ _⟩

theorem vnum3 {L : Nat → Nat} {c cw c0 : Nat} (hcc : c0 ≠ cw) (hc : c ≠ cw) (hc0 : c0 ≠ c) {w : World} {u : Option Nat} {l : List (Int × Int)} (hW : WOpt L cw w u l) (hl : l.length ≤ 1000000000000) {q : Option Addr} {n cap : Nat} {bs : List UInt8}
    (hr : Rd L c0 w 1 (.slice q n cap) n (bs.map byt)) (p : Int) (hp : 0 ≤ p) (hp2 : p + n ≤ 9223372036854775807) (hn : n ≤ 1000000000) (a m : Int) (ha : -9223372036854775808 ≤ a) (ha2 : a ≤ 9223372036854775807) (hm : -9223372036854775808 ≤ m) :
    Calls Try.prog 70 #[.agg #[.slice q n cap, .int .i64 p, wat u], .int .i64 a, .int .i64 m] w fun r w' => ∃ v', r = .returned (.tuple #[v', .int .i64 (numE bs.length a m 8)]) ∧ ∃ L', Step (fun d => d = cw ∨ d = c) L w L' w' ∧ WOpt L' cw w' u (numT l bs.length p a m 8) ∧
      Own L' c w' 34 1 v' (numL bs a m 8).length ((numL bs a m 8).map (numVal .u64)) := by
  have hbl : bs.length = n := by simpa using hr.1
  by_cases hb : numB bs.length a m 8 = true
  · obtain ⟨x, y, rfl, rfl, hxy⟩ := numB_true hb
    rw [numE, if_pos hb, numT, if_pos hb, numL, if_pos hb]
    refine (numbers3_yes hcc hc hc0 hW hl hr p hp hp2 x y (by omega) hn).mono ?_
    rintro r w' ⟨v', rfl, L', st, h1, h2⟩
    exact ⟨v', rfl, L', st, h1, by simpa [nums_length] using h2⟩
  · rw [numE, if_neg hb, numT, if_neg hb, numL, if_neg hb]
    refine (numbers3_no q n cap p (wat u) a m (by omega) (by rw [← hbl]; simpa using hb) ha hm ha2).mono ?_
    rintro r w' ⟨rfl, bl⟩
    have st := Step.of_below (L := L) bl (fun _ => False) 0
    exact ⟨_, rfl, _, st.mono (fun _ h => h.elim), hW.step st (fun h => h), Own.nil _ _ _ _ _⟩

theorem rnum8 {L : Nat → Nat} {c c0 : Nat} (hcc : c0 ≠ c) (hc : 0 ≠ c) {w : World} {q : Option Addr} {n cap : Nat} {bs : List UInt8} (hr : Rd L c0 w 1 (.slice q n cap) n (bs.map byt)) (p : Int) (hn : n ≤ 1000000000)
    (a m : Int) (ha : -9223372036854775808 ≤ a) (ha2 : a ≤ 9223372036854775807) (hm : -9223372036854775808 ≤ m) :
    Calls Try.prog 66 #[.agg #[.slice q n cap, .int .i64 p], .int .i64 a, .int .i64 m, .int .i64 8] w fun r w' => ∃ v', r = .returned (.tuple #[v', .int .i64 (numE bs.length a m 8)]) ∧ ∃ L', Step (· = c) L w L' w' ∧ Own L' c w' 34 1 v' (numL bs a m 8).length ((numL bs a m 8).map (numVal .u64)) := by
  have hbl : bs.length = n := by simpa using hr.1
  by_cases hb : numB bs.length a m 8 = true
  · obtain ⟨x, y, rfl, rfl, hxy⟩ := numB_true hb
    rw [numE, if_pos hb, numL, if_pos hb]
    refine (rnumbers8_yes hcc hc hr p x y (by omega) hn).mono ?_
    rintro r w' ⟨v', rfl, L', st, h2⟩
    exact ⟨v', rfl, L', st, by simpa [nums_length] using h2⟩
  · rw [numE, if_neg hb, numL, if_neg hb]
    refine (rnumbers8_no q n cap p a m (by omega) (by rw [← hbl]; simpa using hb) ha ha2 hm).mono ?_
    rintro r w' ⟨rfl, bl⟩
    have st := Step.of_below (L := L) bl (fun _ => False) 0
    exact ⟨_, rfl, _, st.mono (fun _ h => h.elim), Own.nil _ _ _ _ _⟩

end Go.Proofs.Ytajaonnpekdklaa.Vr
