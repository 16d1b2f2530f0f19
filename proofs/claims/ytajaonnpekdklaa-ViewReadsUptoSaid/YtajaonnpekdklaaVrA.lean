import Derived.Test.YtajaonnpekdklaaBackA
import Derived.Test.YtajaonnpekdklaaInkC
set_option linter.unusedVariables false
set_option maxRecDepth 100000
/-! THE DOCUMENT'S VIEWS; Byte and Raw of a view. -/
namespace Go.Proofs.Ytajaonnpekdklaa.Vw
open Go.ChangeShapes Go.WideShapes Go.ChangeAt Go.RowKit Mem

theorem rinside_calls {w : World} (n : Nat) (a m : Int) (hn : n ≤ 9223372036854775807) (ha : a ≤ 9223372036854775807) :
    Calls Try.prog 71 #[.int .i64 a, .int .i64 m, .int .i64 n] w fun e w' => e = .returned (.bool (insideB a m n)) ∧ w = w' := by
  by_cases q1 : 0 ≤ a
  · by_cases q2 : 0 ≤ m
    · by_cases q3 : a ≤ n
      · by_cases q4 : m ≤ n - a
        · have hE : insideB a m n = true := by simp [insideB, q1, q2, q3, q4]
          have HE := Lib.hid hE
          clear hE
          go_enter Try.func71, Try.ntmps71
          go_wp2
          go_ret
          exact ⟨by rw [HE.out]; rfl, rfl⟩
        · have hE : insideB a m n = false := by simp [insideB, q4]
          have HE := Lib.hid hE
          clear hE
          have q4' : decide (m ≤ n - a) = false := by simp; omega
          go_enter Try.func71, Try.ntmps71
          go_wp2
          go_ret
          exact ⟨by rw [HE.out]; rfl, rfl⟩
      · have hE : insideB a m n = false := by simp [insideB, q3]
        have HE := Lib.hid hE
        clear hE
        have q3' : decide (a ≤ n) = false := by simp; omega
        go_enter Try.func71, Try.ntmps71
        go_wp2
        go_ret
        exact ⟨by rw [HE.out]; rfl, rfl⟩
    · have hE : insideB a m n = false := by simp [insideB, q2]
      have HE := Lib.hid hE
      clear hE
      have q2' : decide (0 ≤ m) = false := by simp; omega
      go_enter Try.func71, Try.ntmps71
      go_wp2
      go_ret
      exact ⟨by rw [HE.out]; rfl, rfl⟩
  · have hE : insideB a m n = false := by simp [insideB, q1]
    have HE := Lib.hid hE
    clear hE
    have q1' : decide (0 ≤ a) = false := by simp; omega
    go_enter Try.func71, Try.ntmps71
    go_wp2
    go_ret
    exact ⟨by rw [HE.out]; rfl, rfl⟩

/-- Where the rest of a slice begins (k: what is left of its room). -/
def rcut (q : Option Addr) (a k : Nat) : Option Addr := if k = 0 then q else q.map (·.add a)

/-- The document's view in a block of its own, in a world that has come on. -/
theorem rbox_cells {w w1 : World} {x0 x1 : Value} (hb : Below (w.alloc (.cells #[x0, x1] 106)).heap.size (w.alloc (.cells #[x0, x1] 106)) w1) :
    w1.cell? ⟨w.heap.size, 0, none⟩ = some x0 ∧ w1.cell? ⟨w.heap.size, 1, none⟩ = some x1 ∧ Below w.heap.size w w1 := by
  have e : ∀ o, w1.cell? ⟨w.heap.size, o, none⟩ = (w.alloc (.cells #[x0, x1] 106)).cell? ⟨w.heap.size, o, none⟩ := fun o => hb.cell (p := ⟨w.heap.size, o, none⟩) (by simp)
  refine ⟨by rw [e]; simp, by rw [e]; simp, (below_alloc w _).trans (hb.mono (by simp))⟩

theorem rpart_yes {w : World} (q : Option Addr) (n cap : Nat) (p : Int) (a m : Nat) (hn : cap ≤ 9223372036854775807) (hm : a + m ≤ n) (hc : n ≤ cap) (hp : 0 ≤ p) (hp2 : p + n ≤ 9223372036854775807) :
    Calls Try.prog 62 #[.agg #[.slice q n cap, .int .i64 p], .int .i64 a, .int .i64 m] w fun e w' => e = .returned (.tuple #[.agg #[.slice (rcut q a (cap - a)) m (cap - a), .int .i64 (p + a)], .int .i64 0]) ∧ Below w.heap.size w w' := by
  have hI : insideB a m n = true := by simp [insideB]; omega
  have HI := Lib.hid hI
  clear hI
  have hb : Below w.heap.size w ((w.alloc (Obj.cells #[.slice q n cap, .int .i64 p] 106)).alloc (Obj.cells #[.slice none 0 0, .int .i64 0] 106)) := (below_alloc w _).alloc (by simp) _
  have HB := Lib.hid hb
  clear hb
  have hx1 : IntKind.i64.wrap ((a : Int) + m) = ((a + m : Nat) : Int) := by rw [IntWalk.i64_in _ (by omega)]; omega
  have hx2 : IntKind.i64.wrap (p + a) = p + a := IntWalk.i64_in _ (by omega)
  have HX1 := Lib.hid hx1
  have HX2 := Lib.hid hx2
  clear hx1 hx2
  by_cases hk : cap - a = 0
  · have hcut : rcut q a (cap - a) = q := by unfold rcut; rw [if_pos hk]
    have HC := Lib.hid hcut
    have HK := Lib.hid hk
    clear hcut
    go_enter Try.func62, Try.ntmps62
    go_wp2_with fail
    refine (rinside_calls n a m (by omega) (by omega)).mono ?_; rintro e w1 ⟨rfl, rfl⟩
    rw [HI.out]
    go_wp2_with fail
    go_region
    all_goals go_wp2_with fail
    all_goals exact bodyPost_ret (v := .tuple #[.agg #[.slice q m 0, .int .i64 (p + a)], .int .i64 0]) (by simp [results, Try.results62, go_sem]) rfl ⟨by rw [HC.out, HK.out], ((below_alloc w _).alloc (by simp) _).drew⟩
  · have hcut : rcut q a (cap - a) = q.map (·.add a) := by unfold rcut; rw [if_neg hk]
    have HC := Lib.hid hcut
    clear hcut
    go_enter Try.func62, Try.ntmps62
    go_wp2_with fail
    refine (rinside_calls n a m (by omega) (by omega)).mono ?_; rintro e w1 ⟨rfl, rfl⟩
    rw [HI.out]
    go_wp2_with fail
    go_region
    all_goals go_wp2_with fail
    all_goals exact bodyPost_ret (v := .tuple #[.agg #[.slice (q.map (·.add a)) m (cap - a), .int .i64 (p + a)], .int .i64 0]) (by simp [results, Try.results62, go_sem]) rfl ⟨by rw [HC.out], ((below_alloc w _).alloc (by simp) _).drew⟩

theorem rpart_no {w : World} (q : Option Addr) (n cap : Nat) (p : Int) (a m : Int) (hn : n ≤ 9223372036854775807) (ha : a ≤ 9223372036854775807) (hi : insideB a m n = false) :
    Calls Try.prog 62 #[.agg #[.slice q n cap, .int .i64 p], .int .i64 a, .int .i64 m] w fun e w' => e = .returned (.tuple #[.agg #[.slice none 0 0, .int .i64 0], .int .i64 2]) ∧ Below w.heap.size w w' := by
  have HI := Lib.hid hi
  clear hi
  have hb : Below w.heap.size w ((w.alloc (Obj.cells #[.slice q n cap, .int .i64 p] 106)).alloc (Obj.cells #[.slice none 0 0, .int .i64 0] 106)) := (below_alloc w _).alloc (by simp) _
  have HB := Lib.hid hb
  clear hb
  go_enter Try.func62, Try.ntmps62
  go_wp2_with fail
  refine (rinside_calls n a m hn ha).mono ?_; rintro e w1 ⟨rfl, rfl⟩
  rw [HI.out]
  go_wp2_with fail
  exact bodyPost_ret (v := .tuple #[.agg #[.slice none 0 0, .int .i64 0], .int .i64 2]) (by simp [results, Try.results62, go_sem]) rfl ⟨rfl, (below_alloc w _).alloc (by simp) _⟩

def byteE (n : Nat) (a : Int) : Int := if insideB a 1 n then 0 else 2
def byteV (bs : List UInt8) (a : Int) : Int := if insideB a 1 bs.length then ((bs[a.toNat]?.getD 0).toNat : Int) else 0
def byteT (l : List (Int × Int)) (n : Nat) (p a : Int) : List (Int × Int) := if insideB a 1 n then tell l p a.toNat 1 else l

theorem rbyte_calls {L : Nat → Nat} {c0 : Nat} {w : World} {q : Option Addr} {n cap : Nat} {bs : List UInt8}
    (hr : Rd L c0 w 1 (.slice q n cap) n (bs.map byt)) (p : Int) (a : Int) (ha : a ≤ 9223372036854775807) :
    Calls Try.prog 54 #[.agg #[.slice q n cap, .int .i64 p], .int .i64 a] w fun e w' => e = .returned (.tuple #[.int .u8 (byteV bs a), .int .i64 (byteE bs.length a)]) ∧ Below w.heap.size w w' := by
  have hbl : bs.length = n := by simpa using hr.1
  obtain ⟨q', cap', hv, hn, hm⟩ := hr.shape
  cases hv
  subst hbl
  unfold maxLen at hm
  have hb : Below w.heap.size w (w.alloc (Obj.cells #[.slice q bs.length cap, .int .i64 p] 106)) := below_alloc w _
  by_cases hi : insideB a 1 bs.length = true
  · obtain ⟨x, y, rfl, h1, hxy⟩ := insideB_true hi
    obtain rfl : y = 1 := by omega
    have hE : byteE bs.length x = 0 := by rw [byteE, if_pos hi]
    have hlt : x < bs.length := by omega
    have hV : byteV bs x = (bs[x].toNat : Int) := by rw [byteV, if_pos hi]; simp [hlt]
    have HE := Lib.hid hE
    have HV := Lib.hid hV
    clear hE hV hi
    have hr1 := hr.step (Step.of_below (L := L) hb (fun _ => False) 0) (by simp)
    obtain ⟨b, off, rfl, _, e0⟩ := hr1.at hlt
    clear h1
    go_enter Try.func54, Try.ntmps54
    go_wp2_with fail
    go_ret2
    exact ⟨by rw [HV.out, HE.out]; rfl, hb⟩
  · have hE : byteE bs.length a = 2 := by rw [byteE, if_neg hi]
    have hV : byteV bs a = 0 := by rw [byteV, if_neg hi]
    have HE := Lib.hid hE
    have HV := Lib.hid hV
    have hh : a < 0 ∨ (bs.length : Int) ≤ a := by
      by_cases h0 : a < 0
      · exact .inl h0
      · right
        simp [insideB] at hi
        omega
    clear hE hV hi
    rcases hh with h0 | h0
    · go_enter Try.func54, Try.ntmps54
      go_wp2_with fail
      go_ret2
      exact ⟨by rw [HV.out, HE.out]; rfl, hb⟩
    · by_cases h1 : a < 0
      · go_enter Try.func54, Try.ntmps54
        go_wp2_with fail
        go_ret2
        exact ⟨by rw [HV.out, HE.out]; rfl, hb⟩
      · go_enter Try.func54, Try.ntmps54
        go_wp2_with fail
        go_ret2
        exact ⟨by rw [HV.out, HE.out]; rfl, hb⟩

theorem leV_drop (bs : List UInt8) {k : Nat} (hk : k < bs.length) : leV (bs.drop k) = bs[k].toNat + 256 * leV (bs.drop (k + 1)) := by
  rw [List.drop_eq_getElem_cons hk]; rfl

end Go.Proofs.Ytajaonnpekdklaa.Vw
