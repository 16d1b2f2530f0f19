import Derived.Test.YtajaonnpekdklaaRows
import Derived.WalkKit
import Derived.ProofKit
import Derived.OpenShut
import Derived.BigQuiet
import Derived.Deep.QuietTactic
import Derived.Lib.Hide
set_option linter.unusedVariables false
namespace Go.Proofs.Ytajaonnpekdklaa.viewExact
open Go.ChangeShapes Go.WideShapes Go.ChangeAt Go.RowKit

/-- the document's sum -/
def sumTo : List Int → Int → Option Int
  | [], s => some s
  | x :: l, s => if x < 0 ∨ 9223372036854775807 - s < x then none else sumTo l (s + x)

/-- a slice of ints that reads as a list -/
def Reads (w : World) (p : Option Addr) (zs : List Int) : Prop :=
  ∀ k, k < zs.length → ∃ b off, p = some ⟨b, off, none⟩ ∧ w.cell? ⟨b, off + k, none⟩ = some (.int .i64 (zs.getD k 0))

def sumG (zs : List Int) : Int := (sumTo zs 0).getD 0
def sumB (zs : List Int) : Bool := (sumTo zs 0).isSome

theorem sumTo_step (zs : List Int) (k : Nat) (s : Int) (h : k < zs.length) :
    sumTo (zs.drop k) s = if zs.getD k 0 < 0 ∨ 9223372036854775807 - s < zs.getD k 0 then none else sumTo (zs.drop (k + 1)) (s + zs.getD k 0) := by
  rw [List.drop_eq_getElem_cons h]
  simp [sumTo, h]

theorem sumTo_bad (zs : List Int) (k : Nat) (s : Int) (h : k < zs.length) (hb : zs[k] < 0 ∨ 9223372036854775807 - s < zs[k]) : sumTo (zs.drop k) s = none := by
  rw [sumTo_step zs k s h, if_pos (by simpa [h] using hb)]
theorem sumTo_good (zs : List Int) (k : Nat) (s : Int) (h : k < zs.length) (hb : 0 ≤ zs[k]) (hc : zs[k] ≤ 9223372036854775807 - s) : sumTo (zs.drop k) s = sumTo (zs.drop (k + 1)) (s + zs[k]) := by
  rw [sumTo_step zs k s h, if_neg (by simp [h]; omega)]; simp [h]
theorem sumTo_end (zs : List Int) (k : Nat) (s : Int) (h : ¬ k < zs.length) : sumTo (zs.drop k) s = some s := by
  rw [List.drop_eq_nil_of_le (by omega)]; rfl
theorem pr_none {r : Option Int} (h : r = none) : Ending.returned (.tuple #[.int .i64 0, .bool false]) = .returned (.tuple #[.int .i64 (r.getD 0), .bool r.isSome]) := by rw [h]; rfl
theorem pr_some {r : Option Int} {t : Int} (h : r = some t) : Ending.returned (.tuple #[.int .i64 t, .bool true]) = .returned (.tuple #[.int .i64 (r.getD 0), .bool r.isSome]) := by rw [h]; rfl

theorem sum_walk (zs : List Int) (p : Option Addr) (cap : Nat) (w : World) (hl : zs.length ≤ maxLen) (hr : Reads w p zs) (hz : ∀ k (h : k < zs.length), -9223372036854775808 ≤ zs[k] ∧ zs[k] ≤ 9223372036854775807) :
    Calls Try.prog 9 #[.slice p zs.length cap] w fun e w' => e = .returned (.tuple #[.int .i64 (sumG zs), .bool (sumB zs)]) ∧ w' = w := by
  unfold maxLen at hl
  go_enter Try.func9, Try.ntmps9
  go_wp2
  go_loop [4, 9] (fun s i => ∃ (k : Nat) (t : Int), k ≤ zs.length ∧ 0 ≤ t ∧ t ≤ 9223372036854775807 ∧ i = .int .i64 k ∧ s = .int .i64 t ∧ sumTo zs 0 = sumTo (zs.drop k) t) (fun _ i => zs.length - (intOf i).toNat)
  case atStart => exact ⟨0, 0, by omega, by omega, by omega, rfl, rfl, rfl⟩
  case round =>
    obtain ⟨k, t, hk, ht0, ht1, rfl, rfl, heq⟩ := hrel
    have H := Lib.hid heq
    clear heq
    by_cases hlt : k < zs.length
    · obtain ⟨b, off, rfl, hc⟩ := hr k hlt
      have hz1 := hz k hlt
      go_wp2
      · go_ret2
        exact ⟨pr_none (by rw [H.out]; exact sumTo_bad zs k t hlt ‹_›), rfl⟩
      · go_round
        case rel => exact ⟨k + 1, t + zs[k], by omega, by omega, by omega, by go_num, rfl, by rw [H.out]; exact sumTo_good zs k t hlt (by omega) (by omega)⟩
        case measure => simp [intOf]; omega
      · go_ret2
        exact ⟨pr_none (by rw [H.out]; exact sumTo_bad zs k t hlt (.inl ‹_›)), rfl⟩
    · go_wp2
      go_ret2
      exact ⟨pr_some (by rw [H.out]; exact sumTo_end zs k t hlt), rfl⟩

theorem rsum_walk (zs : List Int) (p : Option Addr) (cap : Nat) (w : World) (hl : zs.length ≤ maxLen) (hr : Reads w p zs) (hz : ∀ k (h : k < zs.length), -9223372036854775808 ≤ zs[k] ∧ zs[k] ≤ 9223372036854775807) :
    Calls Try.prog 10 #[.slice p zs.length cap] w fun e w' => e = .returned (.tuple #[.int .i64 (sumG zs), .bool (sumB zs)]) ∧ w' = w := by
  unfold maxLen at hl
  go_enter Try.func10, Try.ntmps10
  go_wp2
  go_loop [4, 5] (fun s i => ∃ (k : Nat) (t : Int), k ≤ zs.length ∧ 0 ≤ t ∧ t ≤ 9223372036854775807 ∧ i = .int .i64 k ∧ s = .int .u64 t ∧ sumTo zs 0 = sumTo (zs.drop k) t) (fun _ i => zs.length - (intOf i).toNat)
  case atStart => exact ⟨0, 0, by omega, by omega, by omega, rfl, rfl, rfl⟩
  case round =>
    obtain ⟨k, t, hk, ht0, ht1, rfl, rfl, heq⟩ := hrel
    have H := Lib.hid heq
    clear heq
    by_cases hlt : k < zs.length
    · obtain ⟨b, off, rfl, hc⟩ := hr k hlt
      have hz1 := hz k hlt
      go_wp2
      · go_ret2
        exact ⟨pr_none (by rw [H.out]; exact sumTo_bad zs k t hlt (.inl ‹_›)), rfl⟩
      · go_ret2
        exact ⟨pr_none (by rw [H.out]; exact sumTo_bad zs k t hlt (.inr (by omega))), rfl⟩
      · go_round
        case rel => exact ⟨k + 1, t + zs[k], by omega, by omega, by omega, by go_num, rfl, by rw [H.out]; exact sumTo_good zs k t hlt (by omega) (by omega)⟩
        case measure => simp [intOf]; omega
    · go_wp2
      go_ret2
      exact ⟨pr_some (by rw [H.out]; exact sumTo_end zs k t hlt), rfl⟩

def timesOf (a b : Int) : Option Int := if (a < 0 ∨ b < 0) ∨ (0 < a ∧ 9223372036854775807 / a < b) then none else some (wrap64 (a * b))
def timesG (a b : Int) : Int := (timesOf a b).getD 0
def timesB (a b : Int) : Bool := (timesOf a b).isSome

theorem times_walk (a b : Int) (w : World) (h1 : -9223372036854775808 ≤ a) (h2 : a ≤ 9223372036854775807) (h3 : -9223372036854775808 ≤ b) (h4 : b ≤ 9223372036854775807) :
    Calls Try.prog 11 #[.int .i64 a, .int .i64 b] w fun e w' => e = .returned (.tuple #[.int .i64 (timesG a b), .bool (timesB a b)]) ∧ w' = w := by
  go_enter Try.func11, Try.ntmps11
  go_wp2
  all_goals go_ret2
  all_goals first
    | exact ⟨pr_none (by unfold timesOf; rw [if_pos (by omega)]), rfl⟩
    | exact ⟨pr_some (by unfold timesOf; rw [if_neg (by omega)]), rfl⟩

theorem rtimes_walk (a b : Int) (w : World) (h1 : -9223372036854775808 ≤ a) (h2 : a ≤ 9223372036854775807) (h3 : -9223372036854775808 ≤ b) (h4 : b ≤ 9223372036854775807) :
    Calls Try.prog 12 #[.int .i64 a, .int .i64 b] w fun e w' => e = .returned (.tuple #[.int .i64 (timesG a b), .bool (timesB a b)]) ∧ w' = w := by
  go_enter Try.func12, Try.ntmps12
  go_wp2
  all_goals go_ret2
  all_goals first
    | exact ⟨pr_none (by unfold timesOf; rw [if_pos (by omega)]), rfl⟩
    | exact ⟨pr_some (by unfold timesOf; rw [if_neg (by omega)]), rfl⟩


theorem setRow_last (w : World) (C D : Array Value) (T : TypeId) : (w.alloc (.cells C T)).setRow w.heap.size D = w.alloc (.cells D T) := by
  unfold World.setRow World.alloc
  congr 1
  apply Array.ext
  · simp
  · intro i h1 h2
    simp only [Array.getElem_modify, Array.getElem_push]
    by_cases h : i < w.heap.size
    · simp [h, Nat.ne_of_gt h]
    · have : i = w.heap.size := by simp at h2; omega
      subst this; simp

theorem cell_lt {w : World} {a : Addr} {v : Value} (h : w.cell? a = some v) : a.block < w.heap.size := by
  cases hh : w.heap[a.block]? with
  | none => simp [World.cell?, hh] at h
  | some o => exact (Array.getElem?_eq_some_iff.1 hh).1

/-- copy of a list that is read into the head of the last block -/
theorem run_copy_last {P : Program} (w : World) (dT sT ty elem : TypeId) (C : Array Value) (T : TypeId) (d c n cap : Nat) (p : Option Addr) (zs : List Int)
    (hu : P.underlying dT = some (.slice elem)) (hs : (P.info? elem).map (·.size) = some 1) (hn : n = zs.length) (hd : n ≤ d) (hC : C.size = c) (hdc : d ≤ c)
    (hr : Reads w p zs) :
    (Builtin.copy_ #[dT, sT] ty #[.slice (some ⟨w.heap.size, 0, none⟩) d c, .slice p n cap]).run P (w.alloc (.cells C T)) =
      .ok (goInt n) (w.alloc (.cells (zs.map (Value.int .i64) ++ C.toList.drop n).toArray T)) := by
  subst hn
  by_cases h0 : zs.length = 0
  · have hz : zs = [] := List.eq_nil_of_length_eq_zero h0
    subst hz
    have := run_copy_none (P := P) (w.alloc (.cells C T)) dT sT ty elem (some ⟨w.heap.size, 0, none⟩) p d c 0 cap hu hs (by simp)
    simpa using this
  · obtain ⟨b, off, rfl, hc0⟩ := hr 0 (by omega)
    have hb : b < w.heap.size := cell_lt hc0
    have h := run_copy_row (P := P) (w.alloc (.cells C T)) dT sT ty elem w.heap.size 0 d c ⟨b, off, none⟩ zs.length cap C T (zs.map (Value.int .i64)) hu hs
      (by unfold World.alloc; simp only [Array.getElem?_push_size]) (by simp [Nat.min_eq_left hd]) (fun j v hj => by
        have hj' : j < zs.length := by have := (List.getElem?_eq_some_iff.1 hj).1; simpa using this
        obtain ⟨b', off', e, hc⟩ := hr j hj'
        simp at e; obtain ⟨rfl, rfl⟩ := e
        have hadd : (⟨b, off, none⟩ : Addr).add j = ⟨b, off + j, none⟩ := by unfold Addr.add; split <;> simp_all
        rw [hadd, World.cell?_alloc_lt _ _ _ hb]
        simp at hj
        simp [hj'] at hc hj
        rw [← hj]
        exact hc) (by simp; omega) (ints_oneCell _ _)
    rw [h, setRow_last]
    simp


end Go.Proofs.Ytajaonnpekdklaa.viewExact
