import Derived.Test.YtcebdodogbpglaaPutE
import Derived.Test.YtcebdodogbpglaaSame
import Derived.Laws.MakeOwn
set_option linter.unusedVariables false
set_option maxRecDepth 100000
/-! THE LAW'S OWN FUNCTIONS: lent, kept. -/
namespace Go.Proofs.Ytcebdodogbpglaa.Put
open Go.ChangeShapes Go.WideShapes Go.ChangeAt Go.RowKit Mem Ink

def marks : List UInt8 := [171, 171, 171]

theorem setRow_last (w : World) (C D : Array Value) (T : TypeId) : (w.alloc (.cells C T)).setRow w.heap.size D = w.alloc (.cells D T) := by
  unfold World.setRow World.alloc
  congr 1
  apply Array.ext
  · simp
  · intro i h1 h2
    simp only [Array.getElem_modify, Array.getElem_push]
    by_cases h : i < w.heap.size
    · simp [h, Nat.ne_of_gt h]
    · have : i = w.heap.size := by simp at h2; omega
      subst this; simp

/-- copy of a list that is read into the head of the last block -/
theorem run_copy_last {P : Program} {L : Nat → Nat} {c1 : Nat} (w : World) (dT sT ty elem : TypeId) (C : Array Value) (T : TypeId) (d c n cap : Nat) (p : Option Addr) (xs : List Value)
    (hu : P.underlying dT = some (.slice elem)) (hs : (P.info? elem).map (·.size) = some 1) (hd : n ≤ d) (hC : C.size = c) (hdc : d ≤ c) (h1 : ∀ u ∈ xs, u.oneCell' = true)
    (hr : Rd L c1 w 1 (.slice p n cap) n xs) :
    (Builtin.copy_ #[dT, sT] ty #[.slice (some ⟨w.heap.size, 0, none⟩) d c, .slice p n cap]).run P (w.alloc (.cells C T)) =
      .ok (goInt n) (w.alloc (.cells (xs ++ C.toList.drop n).toArray T)) := by
  obtain ⟨hl, p', cap', hv, hn, hm, hc⟩ := hr
  cases hv
  have hxl : xs.length = n := by simpa using hl
  subst hxl
  by_cases h0 : xs.length = 0
  · have hz : xs = [] := List.eq_nil_of_length_eq_zero h0
    subst hz
    have := run_copy_none (P := P) (w.alloc (.cells C T)) dT sT ty elem (some ⟨w.heap.size, 0, none⟩) p d c 0 cap hu hs (by simp)
    simpa using this
  · obtain ⟨b, off, rfl, _, hc0⟩ := hc 0 (xs[0]'(by omega)) (by simp)
    have hb : b < w.heap.size := World.block_lt_of_cell? w _ hc0
    have h := run_copy_row (P := P) (w.alloc (.cells C T)) dT sT ty elem w.heap.size 0 d c ⟨b, off, none⟩ xs.length cap C T xs hu hs
      (by unfold World.alloc; simp only [Array.getElem?_push_size]) (by simp [Nat.min_eq_left hd]) (fun j v hj => by
        obtain ⟨b', off', e, _, hc⟩ := hc j v hj
        simp at e; obtain ⟨rfl, rfl⟩ := e
        rw [add_lit, World.cell?_alloc_lt _ _ _ hb]
        exact hc) (by simp; omega) h1
    rw [h, setRow_last]
    simp

set_option maxHeartbeats 400000 in
theorem lent_calls {L : Nat → Nat} {c c1 : Nat} {w : World} {v : Value} {n : Nat} {bs : List UInt8} (hr : Rd L c1 w 1 v n (bs.map byt)) (hn : n ≤ 140737488355328) :
    Calls Try.prog 10 #[v] w (SomeVal fun v' w' => ∃ g, v' = .slice (some ⟨g, 0, none⟩) (n + 3) (n + 3) ∧ Step (fun _ => False) L w (ext L w.heap.size c) w' ∧ Own (ext L w.heap.size c) c w' 5 1 v' (n + 3) ((bs ++ marks).map byt)) := by
  have hbl : bs.length = n := by simpa using hr.1
  subst hbl
  obtain ⟨p, cap, rfl, hcn, hm⟩ := hr.shape
  obtain ⟨i0, hi, hz0, hz1, hz2⟩ := info_parts (P := Try.prog) (e := 5) (z := .int .u8 0) (size := 1) (bytes := 1) infoByte
  have hmk := run_make (P := Try.prog) w 23 5 i0 _ Try.underlying23 hi hz0 .i64 .i64 (bs.length + 3) (bs.length + 3) (by omega) (by omega) (by rw [hz2]; omega) (by omega)
  obtain ⟨C, hC⟩ : ∃ C, C = madeCells (Value.int .u8 0).cells ((bs.length + 3 : Int).toNat * i0.size) := ⟨_, rfl⟩
  rw [← hC] at hmk
  have hCs : C.size = bs.length + 3 := by rw [hC, size_madeCells, hz1]; omega
  clear hC
  rw [show ((bs.length : Int) + 3).toNat = bs.length + 3 from by omega] at hmk
  have hcp := run_copy_last (P := Try.prog) w 23 23 3 5 C 5 (bs.length + 3) (bs.length + 3) bs.length cap p (bs.map byt) Try.underlying23 (by rw [hi]; simp [hz1]) (by omega) hCs (by omega) (byt_oneCell bs) hr
  go_enter Try.func10, Try.ntmps10
  go_wp2_with fail
  have hT0 : (List.drop bs.length C.toList).length = 3 := by simp [hCs]
  generalize List.drop bs.length C.toList = T0 at *
  have HT0 := Lib.hid hT0
  clear hT0 hcp hmk hCs
  go_loopw [4] (fun i wr => ∃ (k : Nat) (T E : List Value), k ≤ 3 ∧ i = .int .i64 (bs.length + k : Nat) ∧ T.length = 3 ∧ T.take k = List.replicate k (.int .u8 171) ∧ E = bs.map byt ++ T ∧ E.length = bs.length + 3 ∧ wr = w.alloc (.cells E.toArray 5)) (fun i _ => bs.length + 3 - (intOf i).toNat)
  case atStart => exact ⟨0, T0, _, by omega, rfl, HT0.out, rfl, rfl, by simp [HT0.out], rfl⟩
  case round =>
    obtain ⟨k, T, E, hk, rfl, hT, hTk, hE, hEl, rfl⟩ := hrel
    have HT := Lib.hid hT
    have HTk := Lib.hid hTk
    have HE := Lib.hid hE
    clear hT hTk hE
    by_cases hk3 : k < 3
    · have hcell : E[bs.length + k]? = some (E[bs.length + k]'(by omega)) := by simp
      go_wp2_with fail
      go_roundw
      case rel =>
        refine ⟨k + 1, T.set k (.int .u8 171), E.set (bs.length + k) (.int .u8 171), by omega, by go_num, by simp [HT.out], ?_, ?_, by simp [hEl], by simp⟩
        · have h1 := HT.out
          have h2 := HTk.out
          rw [List.take_succ_eq_append_getElem (by simp; omega), List.take_set_of_le (Nat.le_refl _), h2]
          simp [List.replicate_succ']
        · rw [HE.out, List.set_append_right _ _ (by simp)]; simp
      case measure => simp [intOf]; omega
    · have hk4 : k = 3 := by omega
      subst hk4
      go_wp2_with fail
      go_ret
      have h1 := HTk.out
      rw [List.take_of_length_le (by rw [HT.out]; exact Nat.le_refl _)] at h1
      have h2 : E = (bs ++ marks).map byt := by rw [HE.out, h1]; simp [marks, byt, List.replicate]
      have h3 := Own.made L c w 5 1 (bs.length + 3) E (by simpa using hEl) (by unfold maxLen; omega)
      rw [← h2]
      exact ⟨_, rfl, _, rfl, h3.1, h3.2⟩

end Go.Proofs.Ytcebdodogbpglaa.Put
