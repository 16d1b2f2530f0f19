import Derived.Test.YtajaonnpekdklaaRows
import Derived.Test.YtajaonnpekdklaaMem
import Derived.OpenShut
import Derived.WalkSpells
set_option linter.unusedVariables false
set_option maxRecDepth 100000
namespace Go.Proofs.Ytajaonnpekdklaa.Vw
open Go.ChangeShapes Go.WideShapes Go.ChangeAt Go.RowKit Mem

theorem infoRead : (Try.prog.info? 62).map (fun i => (i.zero, i.size, i.bytes)) = some (some (.agg #[.int .i64 0, .int .i64 0]), 2, 16) := by kernel_rfl

def insideB (a n : Int) (len : Nat) : Bool := ((decide (0 ≤ a) && decide (0 ≤ n)) && decide (a ≤ len)) && decide (n ≤ len - a)

/-- The watch of a view, as the view holds it. -/
def wat (wp : Option Nat) : Value := .pointer (wp.map fun b => ⟨b, 0, none⟩)

theorem there_calls {w : World} (q : Option Addr) (n cap : Nat) (p : Int) (u : Value) (a m : Int) (hn : n ≤ 9223372036854775807) (ha : a ≤ 9223372036854775807) :
    Calls Try.prog 48 #[.agg #[.slice q n cap, .int .i64 p, u], .int .i64 a, .int .i64 m] w fun e w' => e = .returned (.bool (insideB a m n)) ∧ Below w.heap.size w w' := by
  have hb := below_alloc w (.cells #[.slice q n cap, .int .i64 p, u] 51)
  by_cases q1 : 0 ≤ a
  · by_cases q2 : 0 ≤ m
    · by_cases q3 : a ≤ n
      · by_cases q4 : m ≤ n - a
        · have hE : insideB a m n = true := by simp [insideB, q1, q2, q3, q4]
          have HE := Lib.hid hE
          clear hE
          go_enter Try.func48, Try.ntmps48
          go_wp2
          go_ret
          exact ⟨by rw [HE.out]; rfl, hb⟩
        · have hE : insideB a m n = false := by simp [insideB, q4]
          have HE := Lib.hid hE
          clear hE
          have q4' : decide (m ≤ n - a) = false := by simp; omega
          go_enter Try.func48, Try.ntmps48
          go_wp2
          go_ret
          exact ⟨by rw [HE.out]; rfl, hb⟩
      · have hE : insideB a m n = false := by simp [insideB, q3]
        have HE := Lib.hid hE
        clear hE
        have q3' : decide (a ≤ n) = false := by simp; omega
        go_enter Try.func48, Try.ntmps48
        go_wp2
        go_ret
        exact ⟨by rw [HE.out]; rfl, hb⟩
    · have hE : insideB a m n = false := by simp [insideB, q2]
      have HE := Lib.hid hE
      clear hE
      have q2' : decide (0 ≤ m) = false := by simp; omega
      go_enter Try.func48, Try.ntmps48
      go_wp2
      go_ret
      exact ⟨by rw [HE.out]; rfl, hb⟩
  · have hE : insideB a m n = false := by simp [insideB, q1]
    have HE := Lib.hid hE
    clear hE
    have q1' : decide (0 ≤ a) = false := by simp; omega
    go_enter Try.func48, Try.ntmps48
    go_wp2
    go_ret
    exact ⟨by rw [HE.out]; rfl, hb⟩

theorem len_calls {w : World} (q : Option Addr) (n cap : Nat) (p u : Value) :
    Calls Try.prog 28 #[.agg #[.slice q n cap, p, u]] w fun e w' => e = .returned (.int .i64 n) ∧ Below w.heap.size w w' := by
  have hb := below_alloc w (.cells #[.slice q n cap, p, u] 51)
  go_enter Try.func28, Try.ntmps28
  go_wp2
  go_ret
  exact ⟨rfl, hb⟩

theorem of_calls {w : World} (q : Option Addr) (n cap : Nat) (hn : n ≤ cap) (hn2 : cap ≤ 9223372036854775807) :
    Calls Try.prog 26 #[.slice q n cap] w fun e w' => e = .returned (.agg #[.slice q n n, .int .i64 0, .pointer none]) ∧ Below w.heap.size w w' := by
  go_enter Try.func26, Try.ntmps26
  go_wp2
  exact bodyPost_ret (v := .agg #[.slice q n n, .int .i64 0, .pointer none]) (by simp [results, Try.results26, go_sem]) rfl ⟨rfl, below_alloc w _⟩

theorem watched_calls {w : World} (q : Option Addr) (n cap : Nat) (p : Int) (u a2 : Option Addr) :
    Calls Try.prog 27 #[.agg #[.slice q n cap, .int .i64 p, .pointer u], .pointer a2] w fun e w' => e = .returned (.agg #[.slice q n cap, .int .i64 p, .pointer a2]) ∧ Below w.heap.size w w' := by
  go_enter Try.func27, Try.ntmps27
  go_wp2
  exact bodyPost_ret (v := .agg #[.slice q n cap, .int .i64 p, .pointer a2]) (by simp [results, Try.results27, go_sem]) rfl ⟨rfl, (below_alloc w _).alloc (by simp) _⟩

/-- The part of a view's bytes that is handed on: where it begins. -/
def cutAt (q : Option Addr) (a m : Nat) : Option Addr := if a + m = a then q else q.map (·.add a)

theorem insideB_true {a m : Int} {n : Nat} (h : insideB a m n = true) : ∃ x y : Nat, a = x ∧ m = y ∧ x + y ≤ n := by
  simp [insideB] at h
  exact ⟨a.toNat, m.toNat, by omega, by omega, by omega⟩

theorem part_yes {w : World} (q : Option Addr) (n cap : Nat) (p : Int) (u : Option Addr) (a m : Nat) (hn : n ≤ 9223372036854775807) (hm : a + m ≤ n) (hc : n ≤ cap) :
    Calls Try.prog 29 #[.agg #[.slice q n cap, .int .i64 p, .pointer u], .int .i64 a, .int .i64 m] w fun e w' => e = .returned (.tuple #[.agg #[.slice (cutAt q a m) m m, .int .i64 (wrap64 (p + a)), .pointer u], .int .i64 0]) ∧ Below w.heap.size w w' := by
  have hI : insideB a m n = true := by simp [insideB]; omega
  have HI := Lib.hid hI
  clear hI
  obtain ⟨wB, hwB⟩ : ∃ wB, wB = (w.alloc (Obj.cells #[Value.slice q n cap, Value.int IntKind.i64 p, Value.pointer u] 51)).alloc (Obj.cells #[Value.slice none 0 0, Value.int IntKind.i64 0, Value.pointer none] 51) := ⟨_, rfl⟩
  have hbB : Below w.heap.size w wB := by rw [hwB]; exact (below_alloc w _).alloc (by simp) _
  have facts : wB.cell? ⟨w.heap.size, 0, none⟩ = some (.slice q n cap) ∧ wB.cell? ⟨w.heap.size, 1, none⟩ = some (.int .i64 p) ∧ wB.cell? ⟨w.heap.size, 2, none⟩ = some (.pointer u) ∧
      wB.cell? ⟨w.heap.size + 1, 0, none⟩ = some (.slice none 0 0) ∧ wB.cell? ⟨w.heap.size + 1, 1, none⟩ = some (.int .i64 0) ∧ wB.cell? ⟨w.heap.size + 1, 2, none⟩ = some (.pointer none) ∧
      wB.frozen? ⟨w.heap.size + 1, 0, none⟩ = false ∧ wB.frozen? ⟨w.heap.size + 1, 1, none⟩ = false ∧ wB.frozen? ⟨w.heap.size + 1, 2, none⟩ = false ∧ w.heap.size + 1 < wB.heap.size := by
    rw [hwB]; simp
  have HF := Lib.hid facts
  clear facts
  go_enter Try.func29, Try.ntmps29
  go_wp2_with fail
  rw [← hwB]
  refine (there_calls q n cap p _ a m hn (by omega)).mono ?_; rintro e w1 ⟨rfl, b1⟩
  rw [HI.out]
  obtain ⟨f0, f1, f2, f3, f4, f5, f6, f7, f8, hlt⟩ := HF.out
  have d0 := (b1.cell (p := ⟨w.heap.size, 0, none⟩) (by show w.heap.size < _; omega)).trans f0
  have d1 := (b1.cell (p := ⟨w.heap.size, 1, none⟩) (by show w.heap.size < _; omega)).trans f1
  have d2 := (b1.cell (p := ⟨w.heap.size, 2, none⟩) (by show w.heap.size < _; omega)).trans f2
  have e0 := (b1.cell (p := ⟨w.heap.size + 1, 0, none⟩) hlt).trans f3
  have e1 := (b1.cell (p := ⟨w.heap.size + 1, 1, none⟩) hlt).trans f4
  have e2 := (b1.cell (p := ⟨w.heap.size + 1, 2, none⟩) hlt).trans f5
  have g0 := (b1.frozen (p := ⟨w.heap.size + 1, 0, none⟩) hlt).trans f6
  have g1 := (b1.frozen (p := ⟨w.heap.size + 1, 1, none⟩) hlt).trans f7
  have g2 := (b1.frozen (p := ⟨w.heap.size + 1, 2, none⟩) hlt).trans f8
  have hb1 : Below w.heap.size w w1 := hbB.trans (b1.mono (by omega))
  clear f0 f1 f2 f3 f4 f5 f6 f7 f8 b1 hbB hlt HF hwB
  have HB1 := Lib.hid hb1
  clear hb1
  by_cases hm0 : m = 0
  · subst hm0
    go_wp2_with fail
    go_region
    all_goals go_wp2_with fail
    all_goals exact bodyPost_ret (v := .tuple #[.agg #[.slice q 0 0, .int .i64 (wrap64 (p + a)), .pointer u], .int .i64 0]) (by simp [results, Try.results29, go_sem, e0, e1, e2]) rfl ⟨by simp [cutAt], (((HB1.out.setCell (by simp) _).setCell (by simp) _).setCell (by simp) _).drew⟩
  · have hcut : cutAt q a m = q.map (·.add a) := by unfold cutAt; rw [if_neg (by omega)]
    have HC := Lib.hid hcut
    clear hcut
    go_wp2_with fail
    go_region
    all_goals go_wp2_with fail
    all_goals exact bodyPost_ret (v := .tuple #[.agg #[.slice (q.map (·.add a)) m m, .int .i64 (wrap64 (p + a)), .pointer u], .int .i64 0]) (by simp [results, Try.results29, go_sem, e0, e1, e2]) rfl ⟨by rw [HC.out], (((HB1.out.setCell (by simp) _).setCell (by simp) _).setCell (by simp) _).drew⟩

theorem part_no {w : World} (q : Option Addr) (n cap : Nat) (p : Int) (u : Option Addr) (a m : Int) (hn : n ≤ 9223372036854775807) (ha : a ≤ 9223372036854775807) (hi : insideB a m n = false) :
    Calls Try.prog 29 #[.agg #[.slice q n cap, .int .i64 p, .pointer u], .int .i64 a, .int .i64 m] w fun e w' => e = .returned (.tuple #[.agg #[.slice none 0 0, .int .i64 0, .pointer none], .int .i64 2]) ∧ Below w.heap.size w w' := by
  have HI := Lib.hid hi
  clear hi
  go_enter Try.func29, Try.ntmps29
  go_wp2_with fail
  refine (there_calls q n cap p _ a m hn ha).mono ?_; rintro e w1 ⟨rfl, b1⟩
  rw [HI.out]
  have hlt : w.heap.size + 1 < ((w.alloc (Obj.cells #[Value.slice q n cap, Value.int IntKind.i64 p, Value.pointer u] 51)).alloc (Obj.cells #[Value.slice none 0 0, Value.int IntKind.i64 0, Value.pointer none] 51)).heap.size := by simp
  have e0 := b1.cell (p := ⟨w.heap.size + 1, 0, none⟩) hlt
  have e1 := b1.cell (p := ⟨w.heap.size + 1, 1, none⟩) hlt
  have e2 := b1.cell (p := ⟨w.heap.size + 1, 2, none⟩) hlt
  have g0 := b1.frozen (p := ⟨w.heap.size + 1, 0, none⟩) hlt
  have g1 := b1.frozen (p := ⟨w.heap.size + 1, 1, none⟩) hlt
  have g2 := b1.frozen (p := ⟨w.heap.size + 1, 2, none⟩) hlt
  simp at e0 e1 e2 g0 g1 g2
  have hb1 : Below w.heap.size w w1 := ((below_alloc w _).alloc (by simp) _).trans (b1.mono (by simp; omega))
  have HB1 := Lib.hid hb1
  clear hb1 b1 hlt
  go_wp2_with fail
  exact bodyPost_ret (v := .tuple #[.agg #[.slice none 0 0, .int .i64 0, .pointer none], .int .i64 2]) (by simp [results, Try.results29, go_sem, e0, e1, e2]) rfl ⟨rfl, (((HB1.out.setCell (by simp) _).setCell (by simp) _).setCell (by simp) _)⟩

end Go.Proofs.Ytajaonnpekdklaa.Vw
