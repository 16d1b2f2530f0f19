import Derived.Test.YtajaonnpekdklaaVrU
import Derived.Laws.OwnMore
import Derived.Deep.CutRange
set_option linter.unusedVariables false
set_option maxRecDepth 100000
/-! begun (printed by wip/tools/vrv.py). -/
namespace Go.Proofs.Ytajaonnpekdklaa.Mem
open Go.ChangeShapes Go.WideShapes Go.ChangeAt Go.RowKit
theorem setRow_last2 (w : World) (C X : Array Value) (T : TypeId) (O : Obj) : ((w.alloc (.cells C T)).alloc O).setRow w.heap.size X = (w.alloc (.cells X T)).alloc O := by
  unfold World.setRow World.alloc
  congr 1
  apply Array.ext
  · simp
  · intro i h1 h2
    simp only [Array.getElem_modify, Array.getElem_push]
    simp only [Array.size_push]
    by_cases h : i < w.heap.size
    · simp [h, Nat.ne_of_gt h]
    · by_cases h3 : i = w.heap.size
      · subst h3; simp
      · have : i = w.heap.size + 1 := by simp at h2; omega
        subst this; simp

theorem run_copy_last2 {P : Program} {L : Nat → Nat} {c1 : Nat} (w : World) (dT sT ty elem : TypeId) (C : Array Value) (T : TypeId) (O : Obj) (d c n cap : Nat) (p : Option Addr) (xs : List Value)
    (hu : P.underlying dT = some (.slice elem)) (hs : (P.info? elem).map (·.size) = some 1) (hd : n ≤ d) (hC : C.size = c) (hdc : d ≤ c) (h1 : ∀ u ∈ xs, u.oneCell' = true)
    (hr : Rd L c1 w 1 (.slice p n cap) n xs) :
    (Builtin.copy_ #[dT, sT] ty #[.slice (some ⟨w.heap.size, 0, none⟩) d c, .slice p n cap]).run P ((w.alloc (.cells C T)).alloc O) =
      .ok (goInt n) ((w.alloc (.cells (xs ++ C.toList.drop n).toArray T)).alloc O) := by
  obtain ⟨hl, p', cap', hv, hn, hm, hc⟩ := hr
  cases hv
  have hxl : xs.length = n := by simpa using hl
  subst hxl
  by_cases h0 : xs.length = 0
  · have hz : xs = [] := List.eq_nil_of_length_eq_zero h0
    subst hz
    have := run_copy_none (P := P) ((w.alloc (.cells C T)).alloc O) dT sT ty elem (some ⟨w.heap.size, 0, none⟩) p d c 0 cap hu hs (by simp)
    simpa using this
  · obtain ⟨b, off, rfl, _, hc0⟩ := hc 0 (xs[0]'(by omega)) (by simp)
    have hb : b < w.heap.size := World.block_lt_of_cell? w _ hc0
    have h := run_copy_row (P := P) ((w.alloc (.cells C T)).alloc O) dT sT ty elem w.heap.size 0 d c ⟨b, off, none⟩ xs.length cap C T xs hu hs
      (by rw [(below_alloc _ O).block w.heap.size (by simp)]; unfold World.alloc; simp only [Array.getElem?_push_size]) (by simp [Nat.min_eq_left hd]) (fun j v hj => by
        obtain ⟨b', off', e, _, hc⟩ := hc j v hj
        simp at e; obtain ⟨rfl, rfl⟩ := e
        rw [add_lit, World.cell?_alloc_lt _ _ _ (by simp; omega), World.cell?_alloc_lt _ _ _ hb]
        exact hc) (by simp; omega) h1
    rw [h, setRow_last2]
    simp
end Go.Proofs.Ytajaonnpekdklaa.Mem

namespace Go.Proofs.Ytajaonnpekdklaa.Vr
open Go.ChangeShapes Go.WideShapes Go.ChangeAt Go.RowKit Mem Vw

theorem Room.c0 {w0 : World} {mb : Nat} {L : Nat → Nat} {w : World} {s : Rm} (h : Room w0 mb L w s) : w.cell? ⟨mb, 0, none⟩ = some s.av ∧ w.cell? ⟨mb, 1, none⟩ = some (.int .i64 (s.N : Int)) ∧ w.cell? ⟨mb, 2, none⟩ = some s.lv ∧ w.cell? ⟨mb, 4, none⟩ = some (wat s.p1) ∧ w.cell? ⟨mb, 5, none⟩ = some (wat s.p2) ∧ w.cell? ⟨mb, 8, none⟩ = some s.t2v :=
  ⟨by rw [cell_of_heap h.obj]; rfl, by rw [cell_of_heap h.obj]; rfl, by rw [cell_of_heap h.obj]; rfl, by rw [cell_of_heap h.obj]; rfl, by rw [cell_of_heap h.obj]; rfl, by rw [cell_of_heap h.obj]; rfl⟩

theorem Room.put_p1 {w0 : World} {mb : Nat} {L L' : Nat → Nat} {w w' : World} {s : Rm} {C : Nat → Prop} (h : Room w0 mb L w s) {p : Option Nat} {l : List (Int × Int)} (st : Step C L w L' w') (hC : ∀ d, C d → d = 4 ∨ d = 2)
    (ho : w'.heap[mb]? = some (.cells { s with p1 := p, u1 := l }.cells 102 (0, 0))) (hx : WOpt L' 4 w' p l) : Room w0 mb L' w' { s with p1 := p, u1 := l } := by
  have hn : ∀ d, (d ≠ 4 ∧ d ≠ 2) → ¬ C d := fun d hd hc => by have := hC d hc; omega
  exact ⟨h.base.trans (st.mono fun d hd => by have := hC d hd; show d ≠ 0; omega), ho, (st.col mb (lt_of_heap h.obj)).trans h.objc, h.bytes.step st (hn _ (by omega)), h.list.step st (hn _ (by omega)), hx, h.watch2.step st (hn _ (by omega)), h.told1.step st (hn _ (by omega)), h.told2.step st (hn _ (by omega)), h.raws.step st (hn _ (by omega)), h.ofs.step st (hn _ (by omega)), h.outer0.step st (hn _ (by omega)), h.outer1.step st (hn _ (by omega)), h.outer2.step st (hn _ (by omega)), h.outer3.step st (hn _ (by omega)), fun i (hi : i < s.n0.length) => (h.inner0 i hi).step st (hn _ (by omega)), fun i (hi : i < s.n1.length) => (h.inner1 i hi).step st (hn _ (by omega)), fun i (hi : i < s.n2.length) => (h.inner2 i hi).step st (hn _ (by omega)), fun i (hi : i < s.n3.length) => (h.inner3 i hi).step st (hn _ (by omega))⟩

theorem Room.new_p1 {w0 : World} {mb : Nat} {L L1 : Nat → Nat} {w w1 : World} {s : Rm} {wb : Nat} (h : Room w0 mb L w s) (st : Step (fun _ => False) L w L1 w1) (hW : WatchAt L1 4 w1 wb []) :
    Room w0 mb L1 (w1.setCell ⟨mb, 4, none⟩ (.pointer (some ⟨wb, 0, none⟩))) { s with p1 := some wb, u1 := [] } := by
  have hL : L1 mb = 2 := (st.col mb (lt_of_heap h.obj)).trans h.objc
  obtain ⟨st2, ho⟩ := Step.store (j := 4) (v := .pointer (some ⟨wb, 0, none⟩)) (st.heap h.obj (fun x => x)) hL
  exact h.put_p1 (C := fun d => d = 2) ((st.mono fun _ x => x.elim).trans st2) (fun d hd => .inr hd) ho (fun b hb => by cases hb; exact hW.step st2 (by omega))

theorem Room.put_p2 {w0 : World} {mb : Nat} {L L' : Nat → Nat} {w w' : World} {s : Rm} {C : Nat → Prop} (h : Room w0 mb L w s) {p : Option Nat} {l : List (Int × Int)} (st : Step C L w L' w') (hC : ∀ d, C d → d = 5 ∨ d = 2)
    (ho : w'.heap[mb]? = some (.cells { s with p2 := p, u2 := l }.cells 102 (0, 0))) (hx : WOpt L' 5 w' p l) : Room w0 mb L' w' { s with p2 := p, u2 := l } := by
  have hn : ∀ d, (d ≠ 5 ∧ d ≠ 2) → ¬ C d := fun d hd hc => by have := hC d hc; omega
  exact ⟨h.base.trans (st.mono fun d hd => by have := hC d hd; show d ≠ 0; omega), ho, (st.col mb (lt_of_heap h.obj)).trans h.objc, h.bytes.step st (hn _ (by omega)), h.list.step st (hn _ (by omega)), h.watch1.step st (hn _ (by omega)), hx, h.told1.step st (hn _ (by omega)), h.told2.step st (hn _ (by omega)), h.raws.step st (hn _ (by omega)), h.ofs.step st (hn _ (by omega)), h.outer0.step st (hn _ (by omega)), h.outer1.step st (hn _ (by omega)), h.outer2.step st (hn _ (by omega)), h.outer3.step st (hn _ (by omega)), fun i (hi : i < s.n0.length) => (h.inner0 i hi).step st (hn _ (by omega)), fun i (hi : i < s.n1.length) => (h.inner1 i hi).step st (hn _ (by omega)), fun i (hi : i < s.n2.length) => (h.inner2 i hi).step st (hn _ (by omega)), fun i (hi : i < s.n3.length) => (h.inner3 i hi).step st (hn _ (by omega))⟩

theorem Room.new_p2 {w0 : World} {mb : Nat} {L L1 : Nat → Nat} {w w1 : World} {s : Rm} {wb : Nat} (h : Room w0 mb L w s) (st : Step (fun _ => False) L w L1 w1) (hW : WatchAt L1 5 w1 wb []) :
    Room w0 mb L1 (w1.setCell ⟨mb, 5, none⟩ (.pointer (some ⟨wb, 0, none⟩))) { s with p2 := some wb, u2 := [] } := by
  have hL : L1 mb = 2 := (st.col mb (lt_of_heap h.obj)).trans h.objc
  obtain ⟨st2, ho⟩ := Step.store (j := 5) (v := .pointer (some ⟨wb, 0, none⟩)) (st.heap h.obj (fun x => x)) hL
  exact h.put_p2 (C := fun d => d = 2) ((st.mono fun _ x => x.elim).trans st2) (fun d hd => .inr hd) ho (fun b hb => by cases hb; exact hW.step st2 (by omega))


theorem store2 {L : Nat → Nat} {w : World} {c B : Nat} {T : TypeId} {z0 z1 : Value} (hB : w.heap[B]? = some (.cells #[z0, z1] T (0, 0))) (hL : L B = c) (v0 v1 : Value) :
    Step (· = c) L w L ((w.setCell ⟨B, 0, none⟩ v0).setCell ⟨B, 1, none⟩ v1) ∧ Cells L ((w.setCell ⟨B, 0, none⟩ v0).setCell ⟨B, 1, none⟩ v1) B c [v0, v1] := by
  obtain ⟨s1, h1⟩ := Step.store (j := 0) (v := v0) hB hL
  obtain ⟨s2, h2⟩ := Step.store (j := 1) (v := v1) h1 hL
  exact ⟨s1.trans s2, Cells.of (T := T) (fr := (0, 0)) (by rw [h2]; rfl) hL⟩

theorem store3 {L : Nat → Nat} {w : World} {c B : Nat} {T : TypeId} {z0 z1 z2 : Value} (hB : w.heap[B]? = some (.cells #[z0, z1, z2] T (0, 0))) (hL : L B = c) (v0 v1 v2 : Value) :
    Step (· = c) L w L (((w.setCell ⟨B, 0, none⟩ v0).setCell ⟨B, 1, none⟩ v1).setCell ⟨B, 2, none⟩ v2) ∧ Cells L (((w.setCell ⟨B, 0, none⟩ v0).setCell ⟨B, 1, none⟩ v1).setCell ⟨B, 2, none⟩ v2) B c [v0, v1, v2] := by
  obtain ⟨s1, h1⟩ := Step.store (j := 0) (v := v0) hB hL
  obtain ⟨s2, h2⟩ := Step.store (j := 1) (v := v1) h1 hL
  obtain ⟨s3, h3⟩ := Step.store (j := 2) (v := v2) h2 hL
  exact ⟨(s1.trans s2).trans s3, Cells.of (T := T) (fr := (0, 0)) (by rw [h3]; rfl) hL⟩

theorem mark55_step {ds : List UInt8} {n k : Nat} (hk : n + k < ds.length) (h : (ds.drop n).take k = List.replicate k 55) : ((ds.set (n + k) 55).drop n).take (k + 1) = List.replicate (k + 1) 55 := by
  have e : (ds.set (n + k) 55).drop n = (ds.drop n).set k 55 := by
    rw [List.drop_set, if_neg (by omega), Nat.add_sub_cancel_left]
  rw [e, List.take_succ_eq_append_getElem (by simp; omega), List.take_set_of_le (Nat.le_refl _), h]
  simp [List.replicate_succ']

/-- What begun leaves. -/
def Begun (w0 : World) (e : Ending) (w' : World) : Prop := ∃ (mb gb w1 w2 : Nat) (L : Nat → Nat) (s : Rm), e = .returned (.tuple #[.pointer (some ⟨mb, 0, none⟩), .bool true]) ∧ Room w0 mb L w' s ∧ Good gb w1 w2 s ∧ Bound s 3

set_option maxHeartbeats 8000000 in
theorem begun_calls {w : World} {q : Option Addr} {n cap : Nat} {bs : List UInt8} (hb : Rd (fun _ => 0) 0 w 1 (.slice q n cap) n (bs.map byt)) (hn : n ≤ 1048576) :
    Calls Try.prog 33 #[.slice q n cap] w (Begun w) := by
  obtain ⟨p', cap', hv', hnc, hcm⟩ := hb.shape
  cases hv'
  unfold maxLen at hcm
  obtain ⟨i1, hi1, hy0, hy1, hy2⟩ := info_parts (P := Try.prog) (e := 5) (z := .int .u8 0) (size := 1) (bytes := 1) Ink.infoByte
  obtain ⟨M, hM⟩ : ∃ M, M = n + 9 := ⟨_, rfl⟩
  have hmk := run_make (P := Try.prog) w 35 5 i1 _ Try.underlying35 hi1 hy0 .i64 .i64 (M : Int) (M : Int) (by omega) (by omega) (by rw [hy2]; omega) (by omega)
  rw [show ((M : Int)).toNat = M from by simp, hy1, Nat.mul_one, show (Value.int .u8 0).cells = #[Value.int .u8 0] from rfl] at hmk
  obtain ⟨C, hC⟩ : ∃ C, C = madeCells #[Value.int .u8 0] M := ⟨_, rfl⟩
  rw [← hC] at hmk
  have hCl : C.toList = List.replicate M (byt 0) := by rw [hC, toList_madeCells_one]; rfl
  have hCs : C.size = M := by rw [← Array.length_toList, hCl]; simp
  clear hC
  obtain ⟨RO, hRO⟩ : ∃ RO : Obj, RO = Obj.cells #[.slice (some ⟨w.heap.size, 0, none⟩) M M, .int .i64 (n : Int), .slice none 0 0, .pointer none, .pointer none, .pointer none, .slice none 0 0, .slice none 0 0, .slice none 0 0, .slice none 0 0, .slice none 0 0, .slice none 0 0, .slice none 0 0, .slice none 0 0, .slice none 0 0] 102 := ⟨_, rfl⟩
  have hcp := run_copy_last2 (P := Try.prog) w 35 35 3 5 C 5 RO M M n cap q (bs.map byt) Try.underlying35 (by rw [hi1]; simp [hy1]) (by omega) hCs (Nat.le_refl _) (byt_oneCell bs) hb
  obtain ⟨ds0, hds0, hdl0⟩ : ∃ ds0 : List UInt8, bs.map byt ++ C.toList.drop n = ds0.map byt ∧ ds0.length = M := by
    refine ⟨bs ++ List.replicate (M - n) 0, ?_, ?_⟩
    · rw [hCl, List.drop_replicate, List.map_append, List.map_replicate]
    · have : bs.length = n := by simpa using hb.1
      simp; omega
  rw [hds0] at hcp
  clear hds0 hCl
  obtain ⟨wA, hwA⟩ : ∃ wA, wA = (w.alloc (.cells (ds0.map byt).toArray 5)).alloc RO := ⟨_, rfl⟩
  rw [← hwA] at hcp
  obtain ⟨stG, owG⟩ := Own.made (fun _ => 0) 1 w 5 1 M (ds0.map byt) (by simpa using hdl0) (by unfold maxLen; omega)
  have stO : Step (fun _ => False) (ext (fun _ => 0) w.heap.size 1) (w.alloc (.cells (ds0.map byt).toArray 5)) (ext (ext (fun _ => 0) w.heap.size 1) (w.alloc (.cells (ds0.map byt).toArray 5)).heap.size 2) wA := by rw [hwA]; exact Step.of_below (below_alloc _ RO) _ 2
  have hobj : wA.heap[w.heap.size + 1]? = some RO := by
    rw [hwA]
    have := heap_alloc_new (w.alloc (.cells (ds0.map byt).toArray 5)) RO
    simpa using this
  have owA := owG.step stO (fun x => x)
  have hcol : ext (ext (fun _ => 0) w.heap.size 1) (w.alloc (.cells (ds0.map byt).toArray 5)).heap.size 2 (w.heap.size + 1) = 2 := ext_new (by simp)
  have stA := (stG.trans stO)
  generalize ext (ext (fun _ => 0) w.heap.size 1) (w.alloc (.cells (ds0.map byt).toArray 5)).heap.size 2 = LA at *
  rw [hRO] at hobj
  have m0 : wA.cell? ⟨w.heap.size + 1, 0, none⟩ = some (.slice (some ⟨w.heap.size, 0, none⟩) M M) := by rw [cell_of_heap hobj]; rfl
  have m1 : wA.cell? ⟨w.heap.size + 1, 1, none⟩ = some (.int .i64 (n : Int)) := by rw [cell_of_heap hobj]; rfl
  have hM1 : IntKind.i64.wrap ((n : Int) + 9) = (M : Int) := by rw [IntWalk.i64_in _ (by omega)]; omega
  have hM2 : (n : Int) + 9 = (M : Int) := by omega
  have HMM := Lib.hid hM
  have HST := Lib.hid stA
  have HOB := Lib.hid hobj
  have HCOL := Lib.hid hcol
  have HWA := Lib.hid hwA
  have hsz : w.heap.size < wA.heap.size := by rw [hwA]; simp; omega
  rw [hRO] at hcp
  have HDL := Lib.hid hdl0
  clear hb stG stO stA owG hobj hcol hwA hM hCs hdl0 hRO
  go_enter Try.func33, Try.ntmps33
  go_wp2_with fail
  go_loopw [5] (fun i wr => ∃ (k : Nat) (ds : List UInt8), k ≤ 9 ∧ i = .int .i64 ((n + k : Nat) : Int) ∧ Step (fun d => d ≠ 0) (fun _ => 0) w LA wr ∧ wr.heap[w.heap.size + 1]? = some (.cells #[.slice (some ⟨w.heap.size, 0, none⟩) M M, .int .i64 (n : Int), .slice none 0 0, .pointer none, .pointer none, .pointer none, .slice none 0 0, .slice none 0 0, .slice none 0 0, .slice none 0 0, .slice none 0 0, .slice none 0 0, .slice none 0 0, .slice none 0 0, .slice none 0 0] 102 (0, 0)) ∧ Own LA 1 wr 5 1 (.slice (some ⟨w.heap.size, 0, none⟩) M M) M (ds.map byt) ∧ ds.length = M ∧ (ds.drop n).take k = List.replicate k 55) (fun i _ => n + 9 - (intOf i).toNat)
  case atStart => exact ⟨0, ds0, by omega, rfl, HST.out.mono (fun _ x => x.elim), HOB.out, owA, HDL.out, by simp⟩
  case round =>
    obtain ⟨k, ds, hk, rfl, stX, hobX, owX, hdl, hmk2⟩ := hrel
    have m0 : wr.cell? ⟨w.heap.size + 1, 0, none⟩ = some (.slice (some ⟨w.heap.size, 0, none⟩) M M) := by rw [cell_of_heap hobX]; rfl
    have m1 : wr.cell? ⟨w.heap.size + 1, 1, none⟩ = some (.int .i64 (n : Int)) := by rw [cell_of_heap hobX]; rfl
    have HOBX := Lib.hid hobX
    have HSTX := Lib.hid stX
    have HDLX := Lib.hid hdl
    have HMK2 := Lib.hid hmk2
    obtain ⟨I, hI⟩ : ∃ I, I = n + k := ⟨_, rfl⟩
    rw [← hI]
    have hIb : I ≤ 1048586 := by have := HMM.out; omega
    clear hmk hcp hobX stX hdl hmk2 hsz hM1 hM2 owA
    by_cases hk9 : k < 9
    · have hIM : I < M := by have := HMM.out; omega
      obtain ⟨gq, cq, hvq, _, d0, d1, owY, stY⟩ := Own.set owX (j := I) (by simp [HDLX.out]; exact hIM) (byt 55)
      cases hvq
      obtain ⟨qv, dd0⟩ : ∃ qv, wr.cell? ⟨w.heap.size, I, none⟩ = some qv := ⟨_, d0⟩
      have HF := Lib.hid (And.intro (HSTX.out.trans (stY.mono (fun d hd => by show d ≠ 0; rw [show d = 1 from hd]; omega))) (And.intro (stY.heap HOBX.out (by rw [HCOL.out]; omega)) (show Own LA 1 _ 5 1 _ M ((ds.set I 55).map byt) from by rw [List.map_set]; exact owY)))
      have HI := Lib.hid hI
      clear d0 owX owY stY hI
      go_wp2_with fail
      go_roundw
      case rel => exact ⟨k + 1, ds.set I 55, by omega, by have := HI.out; go_num, HF.out.1, HF.out.2.1, HF.out.2.2, by rw [List.length_set]; exact HDLX.out, by have h1 := HI.out; subst h1; exact mark55_step (by have := HMM.out; have := HDLX.out; omega) HMK2.out⟩
      case measure => have := HI.out; simp [intOf]; omega
    · obtain rfl : k = 9 := by omega
      have hIM : I = M := by have := HMM.out; omega
      subst hIM
      have hR0 : Room w (w.heap.size + 1) LA wr ⟨ds, n, .slice (some ⟨w.heap.size, 0, none⟩) I I, (.slice none 0 0), [], none, none, [], [], (.slice none 0 0), (.slice none 0 0), [], [], (.slice none 0 0), (.slice none 0 0), [], [], (.slice none 0 0), (.slice none 0 0), (.slice none 0 0), (.slice none 0 0), [], [], [], []⟩ :=
        ⟨HSTX.out, HOBX.out, HCOL.out, (by show Own LA 1 wr 5 1 _ ds.length _; rw [HDLX.out]; exact owX), Own.nil _ _ _ _ _, (fun _ h => by cases h), (fun _ h => by cases h), Own.nil _ _ _ _ _, Own.nil _ _ _ _ _, Own.nil _ _ _ _ _, Own.nil _ _ _ _ _, Own.nil _ _ _ _ _, Own.nil _ _ _ _ _, Own.nil _ _ _ _ _, Own.nil _ _ _ _ _, (fun i h => by cases h), (fun i h => by cases h), (fun i h => by cases h), (fun i h => by cases h)⟩
      have hmarks : ds.drop n = List.replicate 9 55 := by
        have h1 := HMK2.out
        rwa [List.take_of_length_le (by simp [HDLX.out]; omega)] at h1
      obtain ⟨s0, hs0⟩ : ∃ s0 : Rm, s0 = ⟨ds, n, .slice (some ⟨w.heap.size, 0, none⟩) I I, (.slice none 0 0), [], none, none, [], [], (.slice none 0 0), (.slice none 0 0), [], [], (.slice none 0 0), (.slice none 0 0), [], [], (.slice none 0 0), (.slice none 0 0), (.slice none 0 0), (.slice none 0 0), [], [], [], []⟩ := ⟨_, rfl⟩
      rw [← hs0] at hR0
      have HS0 := Lib.hid hs0
      have HMARKS := Lib.hid hmarks
      have HR0 := Lib.hid hR0
      have HI := Lib.hid hI
      obtain ⟨mb, hmbe⟩ : ∃ mb, mb = w.heap.size + 1 := ⟨_, rfl⟩
      rw [← hmbe] at HR0 m0 m1 ⊢
      have HMB := Lib.hid hmbe
      clear hs0 hmarks hR0 hI owX hmbe
      go_wp2_with fail
      refine Late.region (fun _ => True) (fun _ => false) (by kernel_rfl) ?_
      refine Late.takeC (i := 0) (v := ?_) rfl (by kernel_rfl) (by kernel_rfl) (by kernel_rfl) (by kernel_rfl) (fun _ _ _ h => h) (Or.inl ⟨by rfl, ?_⟩) trivial ?_
      rotate_left
      · intro w' hS
        go_simp
        rfl
      refine Late.takeC (i := 2) (v := ?_) rfl (by kernel_rfl) (by kernel_rfl) (by kernel_rfl) (by kernel_rfl) (fun _ _ _ h => h) (Or.inl ⟨by rfl, ?_⟩) trivial ?_
      rotate_left
      · intro w' hS
        go_simp
        rfl
      refine Late.takeC (i := 3) (v := ?_) rfl (by kernel_rfl) (by kernel_rfl) (by kernel_rfl) (by kernel_rfl) (fun _ _ _ h => h) (Or.inl ⟨by rfl, ?_⟩) trivial ?_
      rotate_left
      · intro w' hS
        go_simp
        rfl
      refine Late.one (i := 1) (by kernel_rfl) rfl (fun K hK => ?_)
      go_simp
      refine (newwatch_calls LA 4 _).mono ?_; rintro r wC1 ⟨rfl, stC, wtC⟩
      have hRC := HR0.out.drew.new_p1 stC wtC
      obtain ⟨qv, hqv⟩ : ∃ qv, wC1.cell? ⟨mb, 4, none⟩ = some qv := ⟨_, (stC.cell HR0.out.drew.c0.2.2.2.1 (fun x => x))⟩
      have hfz : wC1.frozen? ⟨mb, 4, none⟩ = false := frozen_of_heap (stC.heap HR0.out.drew.obj (fun x => x))
      refine hK _ _ (fun _ => trivial) ?_
      clear hK K
      obtain ⟨wb1, hwb⟩ : ∃ wb1, wb1 = wr.drew.heap.size := ⟨_, rfl⟩
      rw [← hwb] at hRC stC wtC
      try rw [← hwb]
      generalize ext LA wb1 4 = L7 at *
      have HRC1 := Lib.hid hRC
      have HWB1 := Lib.hid hwb
      clear hRC stC wtC hwb
      refine Late.one (i := 4) (by kernel_rfl) rfl (fun K hK => ?_)
      go_simp
      refine hK _ _ (fun _ => trivial) ?_
      clear hK K
      refine Late.one (i := 5) (by kernel_rfl) rfl (fun K hK => ?_)
      go_simp
      refine hK _ _ (fun _ => trivial) ?_
      clear hK K
      refine Late.done (by kernel_rfl) ?_ _
      obtain ⟨w7, hw7⟩ : ∃ w7, w7 = wC1.setCell ⟨mb, 4, none⟩ (.pointer (some ⟨wb1, 0, none⟩)) := ⟨_, rfl⟩
      have hR7 := HRC1.out
      rw [← hw7] at hR7
      rw [← hw7]
      obtain ⟨s7, hs7⟩ : ∃ s7 : Rm, s7 = { s0 with p1 := some wb1, u1 := [] } := ⟨_, rfl⟩
      rw [← hs7] at hR7
      have HR7 := Lib.hid hR7
      have HS7 := Lib.hid hs7
      clear hw7 hR7 hs7 HRC1 hqv hfz m0 m1
      go_wp2_with fail
      refine Late.region (fun _ => True) (fun _ => false) (by kernel_rfl) ?_
      refine Late.takeC (i := 0) (v := ?_) rfl (by kernel_rfl) (by kernel_rfl) (by kernel_rfl) (by kernel_rfl) (fun _ _ _ h => h) (Or.inl ⟨by rfl, ?_⟩) trivial ?_
      rotate_left
      · intro w' hS
        go_simp
        rfl
      refine Late.takeC (i := 2) (v := ?_) rfl (by kernel_rfl) (by kernel_rfl) (by kernel_rfl) (by kernel_rfl) (fun _ _ _ h => h) (Or.inl ⟨by rfl, ?_⟩) trivial ?_
      rotate_left
      · intro w' hS
        go_simp
        rfl
      refine Late.takeC (i := 3) (v := ?_) rfl (by kernel_rfl) (by kernel_rfl) (by kernel_rfl) (by kernel_rfl) (fun _ _ _ h => h) (Or.inl ⟨by rfl, ?_⟩) trivial ?_
      rotate_left
      · intro w' hS
        go_simp
        rfl
      refine Late.one (i := 1) (by kernel_rfl) rfl (fun K hK => ?_)
      go_simp
      refine (newwatch_calls L7 5 _).mono ?_; rintro r wC2 ⟨rfl, stC, wtC⟩
      have hRC := HR7.out.drew.new_p2 stC wtC
      obtain ⟨qv, hqv⟩ : ∃ qv, wC2.cell? ⟨mb, 5, none⟩ = some qv := ⟨_, (stC.cell HR7.out.drew.c0.2.2.2.2.1 (fun x => x))⟩
      have hfz : wC2.frozen? ⟨mb, 5, none⟩ = false := frozen_of_heap (stC.heap HR7.out.drew.obj (fun x => x))
      refine hK _ _ (fun _ => trivial) ?_
      clear hK K
      obtain ⟨wb2, hwb⟩ : ∃ wb2, wb2 = w7.drew.heap.size := ⟨_, rfl⟩
      rw [← hwb] at hRC stC wtC
      try rw [← hwb]
      generalize ext L7 wb2 5 = L8 at *
      have HRC2 := Lib.hid hRC
      have HWB2 := Lib.hid hwb
      clear hRC stC wtC hwb
      refine Late.one (i := 4) (by kernel_rfl) rfl (fun K hK => ?_)
      go_simp
      refine hK _ _ (fun _ => trivial) ?_
      clear hK K
      refine Late.one (i := 5) (by kernel_rfl) rfl (fun K hK => ?_)
      go_simp
      refine hK _ _ (fun _ => trivial) ?_
      clear hK K
      refine Late.done (by kernel_rfl) ?_ _
      obtain ⟨w8, hw8⟩ : ∃ w8, w8 = wC2.setCell ⟨mb, 5, none⟩ (.pointer (some ⟨wb2, 0, none⟩)) := ⟨_, rfl⟩
      have hR8 := HRC2.out
      rw [← hw8] at hR8
      rw [← hw8]
      obtain ⟨s8, hs8⟩ : ∃ s8 : Rm, s8 = { s7 with p2 := some wb2, u2 := [] } := ⟨_, rfl⟩
      rw [← hs8] at hR8
      have m4 : w8.cell? ⟨mb, 4, none⟩ = some (.pointer (some ⟨wb1, 0, none⟩)) := by have n4 := hR8.c0.2.2.2.1; rw [show s8.p1 = some wb1 from by rw [hs8, HS7.out]] at n4; exact n4
      have m5 : w8.cell? ⟨mb, 5, none⟩ = some (.pointer (some ⟨wb2, 0, none⟩)) := by have n5 := hR8.c0.2.2.2.2.1; rw [show s8.p2 = some wb2 from by rw [hs8]] at n5; exact n5
      have HR8 := Lib.hid hR8
      have HS8 := Lib.hid hs8
      clear hw8 hR8 hs8 HRC2 hqv hfz
      go_upto_region 11 with fail
      have HM5 := Lib.hid (show ∀ (L' : Nat → Nat) (w' : World), Room w mb L' w' s8 → w'.cell? ⟨mb, 5, none⟩ = some (.pointer (some ⟨wb2, 0, none⟩)) from fun L' w' hr => by have n5 := hr.c0.2.2.2.2.1; rw [show s8.p2 = some wb2 from by rw [HS8.out]] at n5; exact n5)
      clear m4 m5
      go_cut [6] from 69 to 76 (fun x6 wx => ∃ (B : Nat) (Lx : Nat → Nat) (q9 : Option Addr), x6 = .pointer (some ⟨B, 0, none⟩) ∧ Room w mb Lx wx s8 ∧ Cells Lx wx B 30 [.slice q9 1 1, .int .i64 0, .pointer (some ⟨wb2, 0, none⟩)] ∧ Rd Lx 31 wx 1 (.slice q9 1 1) 1 ([9].map byt))
      case first =>
        refine Late.region (fun w' => w'.cell? ⟨mb, 5, none⟩ = some (.pointer (some ⟨wb2, 0, none⟩))) (fun j => decide (8 < j)) (by kernel_rfl) ?_
        obtain ⟨wx, hwx⟩ : ∃ x, x = w8.drew := ⟨_, rfl⟩
        have hRx := HR8.out.drew
        rw [← hwx] at hRx
        rw [← hwx]
        have HRx := Lib.hid hRx
        clear hRx hwx
        refine Late.takeC (i := 2) (v := ?_) rfl (by kernel_rfl) (by kernel_rfl) (by kernel_rfl) (by kernel_rfl) (fun _ _ _ h => h) (Or.inl ⟨by rfl, ?_⟩) (HM5.out _ _ HRx.out) ?_
        rotate_left
        · intro w' hS
          go_simp
          rfl
        refine Late.takeC (i := 3) (v := ?_) rfl (by kernel_rfl) (by kernel_rfl) (by kernel_rfl) (by kernel_rfl) (fun _ _ _ h => h) (Or.inl ⟨by rfl, ?_⟩) (HM5.out _ _ HRx.out) ?_
        rotate_left
        · intro w' hS
          go_simp
          rfl
        refine Late.takeC (i := 4) (v := ?_) rfl (by kernel_rfl) (by kernel_rfl) (by kernel_rfl) (by kernel_rfl) (fun _ _ _ h => h) (Or.inl ⟨by rfl, ?_⟩) (HM5.out _ _ HRx.out) ?_
        rotate_left
        · intro w' hS
          go_simp
          rfl
        refine Late.takeC (i := 5) (v := ?_) rfl (by kernel_rfl) (by kernel_rfl) (by kernel_rfl) (by kernel_rfl) (fun _ _ _ h => h) (Or.inl ⟨by rfl, ?_⟩) (HM5.out _ _ HRx.out) ?_
        rotate_left
        · intro w' hS
          go_simp
          rfl
        refine Late.takeC (i := 6) (v := ?_) rfl (by kernel_rfl) (by kernel_rfl) (by kernel_rfl) (by kernel_rfl) (fun _ _ _ h => h) (Or.inl ⟨by rfl, ?_⟩) (HM5.out _ _ HRx.out) ?_
        rotate_left
        · intro w' hS
          go_simp
          rfl
        refine Late.two (i := 0) (k := 8) (by kernel_rfl) rfl rfl (fun K hK => ?_) (fun K hK => ?_)
        · go_simp
          obtain ⟨wn6, hwn⟩ : ∃ x, x = wx.alloc (.cells #[.int .u8 9] 5) := ⟨_, rfl⟩
          obtain ⟨Ln6, stn, own⟩ : ∃ Ln, Step (fun _ => False) L8 wx Ln wn6 ∧ Own Ln 31 wn6 5 1 (.slice (some ⟨wx.heap.size, 0, none⟩) 1 1) 1 [.int .u8 9] := by rw [hwn]; exact ⟨_, Own.made L8 31 wx 5 1 1 [.int .u8 9] rfl (by unfold maxLen; omega)⟩
          have rdq6 : Rd Ln6 31 wn6 1 (.slice (some ⟨wx.heap.size, 0, none⟩) 1 1) 1 ([9].map byt) := own.rd
          have hRn := HRx.out.move stn (fun _ x => x.elim)
          refine hK _ _ (fun _ => by rw [← hwn]; exact (HM5.out _ _ hRn)) ?_
          clear hK K
          rw [← hwn]
          clear hwn
          have HRn6 := Lib.hid hRn
          clear hRn stn own
          refine Late.two (i := 1) (k := 8) (by kernel_rfl) rfl rfl (fun K hK => ?_) (fun K hK => ?_)
          · go_simp
            refine (of_calls (some ⟨wx.heap.size, 0, none⟩) 1 1 (by omega) (by omega)).mono ?_; rintro r wn7 ⟨rfl, bn⟩
            obtain ⟨Ln7, stn⟩ : ∃ Ln, Step (fun _ => False) Ln6 wn6 Ln wn7 := ⟨_, Step.of_below bn _ 32⟩
            have hRn := HRn6.out.move stn (fun _ x => x.elim)
            have rdq7 := rdq6.step stn (fun x => x)
            refine hK _ _ (fun _ => (HM5.out _ _ hRn)) ?_
            clear hK K
            have HRn7 := Lib.hid hRn
            clear hRn stn bn
            refine Late.two (i := 7) (k := 8) (by kernel_rfl) rfl rfl (fun K hK => ?_) (fun K hK => ?_)
            · go_simp
              refine (watched_calls (some ⟨wx.heap.size, 0, none⟩) 1 1 0 none (some ⟨wb2, 0, none⟩)).mono ?_; rintro r wn8 ⟨rfl, bn⟩
              obtain ⟨Ln8, stn⟩ : ∃ Ln, Step (fun _ => False) Ln7 wn7 Ln wn8 := ⟨_, Step.of_below bn _ 32⟩
              have hRn := HRn7.out.move stn (fun _ x => x.elim)
              have rdq8 := rdq7.step stn (fun x => x)
              refine hK _ _ (fun _ => (HM5.out _ _ hRn)) ?_
              clear hK K
              have HRn8 := Lib.hid hRn
              clear hRn stn bn
              refine Late.one (i := 8) (by kernel_rfl) rfl (fun K hK => ?_)
              go_simp
              obtain ⟨wn9, hwn⟩ : ∃ x, x = wn8.alloc (.cells #[.slice none 0 0, .int .i64 0, .pointer none] 51) := ⟨_, rfl⟩
              obtain ⟨Ln9, stn, hzb⟩ : ∃ Ln, Step (fun _ => False) Ln8 wn8 Ln wn9 ∧ wn9.heap[wn8.heap.size]? = some (.cells #[.slice none 0 0, .int .i64 0, .pointer none] 51 (0, 0)) ∧ Ln wn8.heap.size = 30 := by rw [hwn]; exact ⟨_, Step.of_below (below_alloc wn8 _) _ 30, heap_alloc_new wn8 _, ext_new (Nat.le_refl _)⟩
              obtain ⟨B9, hB9⟩ : ∃ B, B = wn8.heap.size := ⟨_, rfl⟩
              rw [← hB9] at hzb
              have HZ9 := Lib.hid hzb
              clear hzb
              have hRn := HRn8.out.move stn (fun _ x => x.elim)
              have rdq9 := rdq8.step stn (fun x => x)
              refine hK _ _ (fun _ => by rw [← hwn]; exact (HM5.out _ _ hRn)) ?_
              clear hK K
              rw [← hwn]
              clear hwn
              rw [← hB9]
              have HB9 := Lib.hid hB9
              clear hB9
              have HRn9 := Lib.hid hRn
              clear hRn stn
              refine Late.one (i := 9) (by kernel_rfl) rfl (fun K hK => ?_)
              have z0 : wn9.cell? ⟨B9, 0, none⟩ = some (.slice none 0 0) := by rw [cell_of_heap HZ9.out.1]; rfl
              have f0 : wn9.frozen? ⟨B9, 0, none⟩ = false := frozen_of_heap HZ9.out.1
              have z1 : wn9.cell? ⟨B9, 1, none⟩ = some (.int .i64 0) := by rw [cell_of_heap HZ9.out.1]; rfl
              have f1 : wn9.frozen? ⟨B9, 1, none⟩ = false := frozen_of_heap HZ9.out.1
              have z2 : wn9.cell? ⟨B9, 2, none⟩ = some (.pointer none) := by rw [cell_of_heap HZ9.out.1]; rfl
              have f2 : wn9.frozen? ⟨B9, 2, none⟩ = false := frozen_of_heap HZ9.out.1
              go_simp
              refine hK _ _ (fun h => by cases h) ?_
              clear hK K
              refine Late.done (by kernel_rfl) ?_ _
              go_wp2_with fail
              go_meet
              case rel =>
                obtain ⟨st3, c3⟩ := store3 HZ9.out.1 HZ9.out.2 (.slice (some ⟨wx.heap.size, 0, none⟩) 1 1) (.int .i64 0) (.pointer (some ⟨wb2, 0, none⟩))
                exact ⟨B9, Ln9, (some ⟨wx.heap.size, 0, none⟩), rfl, HRn9.out.move st3 (fun d hd => by rw [show d = 30 from hd]; omega), c3, rdq9.step st3 (by omega)⟩
            · go_simp
              obtain ⟨wn10, hwn⟩ : ∃ x, x = wn7.alloc (.cells #[.slice none 0 0, .int .i64 0, .pointer none] 51) := ⟨_, rfl⟩
              obtain ⟨Ln10, stn, hzb⟩ : ∃ Ln, Step (fun _ => False) Ln7 wn7 Ln wn10 ∧ wn10.heap[wn7.heap.size]? = some (.cells #[.slice none 0 0, .int .i64 0, .pointer none] 51 (0, 0)) ∧ Ln wn7.heap.size = 30 := by rw [hwn]; exact ⟨_, Step.of_below (below_alloc wn7 _) _ 30, heap_alloc_new wn7 _, ext_new (Nat.le_refl _)⟩
              obtain ⟨B10, hB10⟩ : ∃ B, B = wn7.heap.size := ⟨_, rfl⟩
              rw [← hB10] at hzb
              have HZ10 := Lib.hid hzb
              clear hzb
              have hRn := HRn7.out.move stn (fun _ x => x.elim)
              have rdq10 := rdq7.step stn (fun x => x)
              refine hK _ _ (fun _ => by rw [← hwn]; exact (HM5.out _ _ hRn)) ?_
              clear hK K
              rw [← hwn]
              clear hwn
              rw [← hB10]
              have HB10 := Lib.hid hB10
              clear hB10
              have HRn10 := Lib.hid hRn
              clear hRn stn
              refine Late.one (i := 7) (by kernel_rfl) rfl (fun K hK => ?_)
              go_simp
              refine (watched_calls (some ⟨wx.heap.size, 0, none⟩) 1 1 0 none (some ⟨wb2, 0, none⟩)).mono ?_; rintro r wn11 ⟨rfl, bn⟩
              obtain ⟨Ln11, stn⟩ : ∃ Ln, Step (fun _ => False) Ln10 wn10 Ln wn11 := ⟨_, Step.of_below bn _ 32⟩
              have hRn := HRn10.out.move stn (fun _ x => x.elim)
              have rdq11 := rdq10.step stn (fun x => x)
              have HZ11 := Lib.hid (And.intro (stn.heap HZ10.out.1 (fun x => x)) ((stn.col _ (lt_of_heap HZ10.out.1)).trans HZ10.out.2))
              refine hK _ _ (fun _ => (HM5.out _ _ hRn)) ?_
              clear hK K
              have HRn11 := Lib.hid hRn
              clear hRn stn bn
              refine Late.one (i := 9) (by kernel_rfl) rfl (fun K hK => ?_)
              have z0 : wn11.cell? ⟨B10, 0, none⟩ = some (.slice none 0 0) := by rw [cell_of_heap HZ11.out.1]; rfl
              have f0 : wn11.frozen? ⟨B10, 0, none⟩ = false := frozen_of_heap HZ11.out.1
              have z1 : wn11.cell? ⟨B10, 1, none⟩ = some (.int .i64 0) := by rw [cell_of_heap HZ11.out.1]; rfl
              have f1 : wn11.frozen? ⟨B10, 1, none⟩ = false := frozen_of_heap HZ11.out.1
              have z2 : wn11.cell? ⟨B10, 2, none⟩ = some (.pointer none) := by rw [cell_of_heap HZ11.out.1]; rfl
              have f2 : wn11.frozen? ⟨B10, 2, none⟩ = false := frozen_of_heap HZ11.out.1
              go_simp
              refine hK _ _ (fun h => by cases h) ?_
              clear hK K
              refine Late.done (by kernel_rfl) ?_ _
              go_wp2_with fail
              go_meet
              case rel =>
                obtain ⟨st3, c3⟩ := store3 HZ11.out.1 HZ11.out.2 (.slice (some ⟨wx.heap.size, 0, none⟩) 1 1) (.int .i64 0) (.pointer (some ⟨wb2, 0, none⟩))
                exact ⟨B10, Ln11, (some ⟨wx.heap.size, 0, none⟩), rfl, HRn11.out.move st3 (fun d hd => by rw [show d = 30 from hd]; omega), c3, rdq11.step st3 (by omega)⟩
          · go_simp
            obtain ⟨wn12, hwn⟩ : ∃ x, x = wn6.alloc (.cells #[.slice none 0 0, .int .i64 0, .pointer none] 51) := ⟨_, rfl⟩
            obtain ⟨Ln12, stn, hzb⟩ : ∃ Ln, Step (fun _ => False) Ln6 wn6 Ln wn12 ∧ wn12.heap[wn6.heap.size]? = some (.cells #[.slice none 0 0, .int .i64 0, .pointer none] 51 (0, 0)) ∧ Ln wn6.heap.size = 30 := by rw [hwn]; exact ⟨_, Step.of_below (below_alloc wn6 _) _ 30, heap_alloc_new wn6 _, ext_new (Nat.le_refl _)⟩
            obtain ⟨B12, hB12⟩ : ∃ B, B = wn6.heap.size := ⟨_, rfl⟩
            rw [← hB12] at hzb
            have HZ12 := Lib.hid hzb
            clear hzb
            have hRn := HRn6.out.move stn (fun _ x => x.elim)
            have rdq12 := rdq6.step stn (fun x => x)
            refine hK _ _ (fun _ => by rw [← hwn]; exact (HM5.out _ _ hRn)) ?_
            clear hK K
            rw [← hwn]
            clear hwn
            rw [← hB12]
            have HB12 := Lib.hid hB12
            clear hB12
            have HRn12 := Lib.hid hRn
            clear hRn stn
            refine Late.one (i := 1) (by kernel_rfl) rfl (fun K hK => ?_)
            go_simp
            refine (of_calls (some ⟨wx.heap.size, 0, none⟩) 1 1 (by omega) (by omega)).mono ?_; rintro r wn13 ⟨rfl, bn⟩
            obtain ⟨Ln13, stn⟩ : ∃ Ln, Step (fun _ => False) Ln12 wn12 Ln wn13 := ⟨_, Step.of_below bn _ 32⟩
            have hRn := HRn12.out.move stn (fun _ x => x.elim)
            have rdq13 := rdq12.step stn (fun x => x)
            have HZ13 := Lib.hid (And.intro (stn.heap HZ12.out.1 (fun x => x)) ((stn.col _ (lt_of_heap HZ12.out.1)).trans HZ12.out.2))
            refine hK _ _ (fun _ => (HM5.out _ _ hRn)) ?_
            clear hK K
            have HRn13 := Lib.hid hRn
            clear hRn stn bn
            refine Late.one (i := 7) (by kernel_rfl) rfl (fun K hK => ?_)
            go_simp
            refine (watched_calls (some ⟨wx.heap.size, 0, none⟩) 1 1 0 none (some ⟨wb2, 0, none⟩)).mono ?_; rintro r wn14 ⟨rfl, bn⟩
            obtain ⟨Ln14, stn⟩ : ∃ Ln, Step (fun _ => False) Ln13 wn13 Ln wn14 := ⟨_, Step.of_below bn _ 32⟩
            have hRn := HRn13.out.move stn (fun _ x => x.elim)
            have rdq14 := rdq13.step stn (fun x => x)
            have HZ14 := Lib.hid (And.intro (stn.heap HZ13.out.1 (fun x => x)) ((stn.col _ (lt_of_heap HZ13.out.1)).trans HZ13.out.2))
            refine hK _ _ (fun _ => (HM5.out _ _ hRn)) ?_
            clear hK K
            have HRn14 := Lib.hid hRn
            clear hRn stn bn
            refine Late.one (i := 9) (by kernel_rfl) rfl (fun K hK => ?_)
            have z0 : wn14.cell? ⟨B12, 0, none⟩ = some (.slice none 0 0) := by rw [cell_of_heap HZ14.out.1]; rfl
            have f0 : wn14.frozen? ⟨B12, 0, none⟩ = false := frozen_of_heap HZ14.out.1
            have z1 : wn14.cell? ⟨B12, 1, none⟩ = some (.int .i64 0) := by rw [cell_of_heap HZ14.out.1]; rfl
            have f1 : wn14.frozen? ⟨B12, 1, none⟩ = false := frozen_of_heap HZ14.out.1
            have z2 : wn14.cell? ⟨B12, 2, none⟩ = some (.pointer none) := by rw [cell_of_heap HZ14.out.1]; rfl
            have f2 : wn14.frozen? ⟨B12, 2, none⟩ = false := frozen_of_heap HZ14.out.1
            go_simp
            refine hK _ _ (fun h => by cases h) ?_
            clear hK K
            refine Late.done (by kernel_rfl) ?_ _
            go_wp2_with fail
            go_meet
            case rel =>
              obtain ⟨st3, c3⟩ := store3 HZ14.out.1 HZ14.out.2 (.slice (some ⟨wx.heap.size, 0, none⟩) 1 1) (.int .i64 0) (.pointer (some ⟨wb2, 0, none⟩))
              exact ⟨B12, Ln14, (some ⟨wx.heap.size, 0, none⟩), rfl, HRn14.out.move st3 (fun d hd => by rw [show d = 30 from hd]; omega), c3, rdq14.step st3 (by omega)⟩
        · go_simp
          obtain ⟨wn15, hwn⟩ : ∃ x, x = wx.alloc (.cells #[.slice none 0 0, .int .i64 0, .pointer none] 51) := ⟨_, rfl⟩
          obtain ⟨Ln15, stn, hzb⟩ : ∃ Ln, Step (fun _ => False) L8 wx Ln wn15 ∧ wn15.heap[wx.heap.size]? = some (.cells #[.slice none 0 0, .int .i64 0, .pointer none] 51 (0, 0)) ∧ Ln wx.heap.size = 30 := by rw [hwn]; exact ⟨_, Step.of_below (below_alloc wx _) _ 30, heap_alloc_new wx _, ext_new (Nat.le_refl _)⟩
          obtain ⟨B15, hB15⟩ : ∃ B, B = wx.heap.size := ⟨_, rfl⟩
          rw [← hB15] at hzb
          have HZ15 := Lib.hid hzb
          clear hzb
          have hRn := HRx.out.move stn (fun _ x => x.elim)
          refine hK _ _ (fun _ => by rw [← hwn]; exact (HM5.out _ _ hRn)) ?_
          clear hK K
          rw [← hwn]
          clear hwn
          rw [← hB15]
          have HB15 := Lib.hid hB15
          clear hB15
          have HRn15 := Lib.hid hRn
          clear hRn stn
          refine Late.one (i := 0) (by kernel_rfl) rfl (fun K hK => ?_)
          go_simp
          obtain ⟨wn16, hwn⟩ : ∃ x, x = wn15.alloc (.cells #[.int .u8 9] 5) := ⟨_, rfl⟩
          obtain ⟨Ln16, stn, own⟩ : ∃ Ln, Step (fun _ => False) Ln15 wn15 Ln wn16 ∧ Own Ln 31 wn16 5 1 (.slice (some ⟨wn15.heap.size, 0, none⟩) 1 1) 1 [.int .u8 9] := by rw [hwn]; exact ⟨_, Own.made Ln15 31 wn15 5 1 1 [.int .u8 9] rfl (by unfold maxLen; omega)⟩
          have rdq16 : Rd Ln16 31 wn16 1 (.slice (some ⟨wn15.heap.size, 0, none⟩) 1 1) 1 ([9].map byt) := own.rd
          have hRn := HRn15.out.move stn (fun _ x => x.elim)
          have HZ16 := Lib.hid (And.intro (stn.heap HZ15.out.1 (fun x => x)) ((stn.col _ (lt_of_heap HZ15.out.1)).trans HZ15.out.2))
          refine hK _ _ (fun _ => by rw [← hwn]; exact (HM5.out _ _ hRn)) ?_
          clear hK K
          rw [← hwn]
          clear hwn
          have HRn16 := Lib.hid hRn
          clear hRn stn own
          refine Late.one (i := 1) (by kernel_rfl) rfl (fun K hK => ?_)
          go_simp
          refine (of_calls (some ⟨wn15.heap.size, 0, none⟩) 1 1 (by omega) (by omega)).mono ?_; rintro r wn17 ⟨rfl, bn⟩
          obtain ⟨Ln17, stn⟩ : ∃ Ln, Step (fun _ => False) Ln16 wn16 Ln wn17 := ⟨_, Step.of_below bn _ 32⟩
          have hRn := HRn16.out.move stn (fun _ x => x.elim)
          have rdq17 := rdq16.step stn (fun x => x)
          have HZ17 := Lib.hid (And.intro (stn.heap HZ16.out.1 (fun x => x)) ((stn.col _ (lt_of_heap HZ16.out.1)).trans HZ16.out.2))
          refine hK _ _ (fun _ => (HM5.out _ _ hRn)) ?_
          clear hK K
          have HRn17 := Lib.hid hRn
          clear hRn stn bn
          refine Late.one (i := 7) (by kernel_rfl) rfl (fun K hK => ?_)
          go_simp
          refine (watched_calls (some ⟨wn15.heap.size, 0, none⟩) 1 1 0 none (some ⟨wb2, 0, none⟩)).mono ?_; rintro r wn18 ⟨rfl, bn⟩
          obtain ⟨Ln18, stn⟩ : ∃ Ln, Step (fun _ => False) Ln17 wn17 Ln wn18 := ⟨_, Step.of_below bn _ 32⟩
          have hRn := HRn17.out.move stn (fun _ x => x.elim)
          have rdq18 := rdq17.step stn (fun x => x)
          have HZ18 := Lib.hid (And.intro (stn.heap HZ17.out.1 (fun x => x)) ((stn.col _ (lt_of_heap HZ17.out.1)).trans HZ17.out.2))
          refine hK _ _ (fun _ => (HM5.out _ _ hRn)) ?_
          clear hK K
          have HRn18 := Lib.hid hRn
          clear hRn stn bn
          refine Late.one (i := 9) (by kernel_rfl) rfl (fun K hK => ?_)
          have z0 : wn18.cell? ⟨B15, 0, none⟩ = some (.slice none 0 0) := by rw [cell_of_heap HZ18.out.1]; rfl
          have f0 : wn18.frozen? ⟨B15, 0, none⟩ = false := frozen_of_heap HZ18.out.1
          have z1 : wn18.cell? ⟨B15, 1, none⟩ = some (.int .i64 0) := by rw [cell_of_heap HZ18.out.1]; rfl
          have f1 : wn18.frozen? ⟨B15, 1, none⟩ = false := frozen_of_heap HZ18.out.1
          have z2 : wn18.cell? ⟨B15, 2, none⟩ = some (.pointer none) := by rw [cell_of_heap HZ18.out.1]; rfl
          have f2 : wn18.frozen? ⟨B15, 2, none⟩ = false := frozen_of_heap HZ18.out.1
          go_simp
          refine hK _ _ (fun h => by cases h) ?_
          clear hK K
          refine Late.done (by kernel_rfl) ?_ _
          go_wp2_with fail
          go_meet
          case rel =>
            obtain ⟨st3, c3⟩ := store3 HZ18.out.1 HZ18.out.2 (.slice (some ⟨wn15.heap.size, 0, none⟩) 1 1) (.int .i64 0) (.pointer (some ⟨wb2, 0, none⟩))
            exact ⟨B15, Ln18, (some ⟨wn15.heap.size, 0, none⟩), rfl, HRn18.out.move st3 (fun d hd => by rw [show d = 30 from hd]; omega), c3, rdq18.step st3 (by omega)⟩
      case rest =>
        obtain ⟨B1, LX, q9, rfl, hRX, cX, rdx⟩ := hcut
        have b0 : wc.cell? ⟨B1, 0, none⟩ = some (.slice q9 1 1) := cX.2.2 0 _ rfl
        have b1 : wc.cell? ⟨B1, 1, none⟩ = some (.int .i64 0) := cX.2.2 1 _ rfl
        have b2 : wc.cell? ⟨B1, 2, none⟩ = some (.pointer (some ⟨wb2, 0, none⟩)) := cX.2.2 2 _ rfl
        have hW2 : WOpt LX 5 wc (some wb2) [] := by
          have h1 := hRX.watch2
          rw [HS8.out] at h1
          exact h1
        have hbv : byteV [9] 0 = 9 := by rfl
        have hbe : byteE ([9] : List UInt8).length 0 = 0 := by rfl
        have hbt : byteT [] ([9] : List UInt8).length 0 0 = [((0 : Int), (1 : Int))] := by rfl
        have HBV := Lib.hid (And.intro hbv (And.intro hbe hbt))
        have HRX := Lib.hid hRX
        clear hbv hbe hbt hRX cX
        go_wp2_with fail
        refine (vbyte_calls (c := 5) (c0 := 31) (by decide) (w := wc) (u := some wb2) (l := []) hW2 (by simp) (q := q9) (n := 1) (cap := 1) (bs := [9]) rdx 0 (by omega) (by omega) 0 (by omega)).mono ?_; rintro r w12 ⟨rfl, hrd⟩
        rw [HBV.out.2.2] at hrd
        rw [HBV.out.1, HBV.out.2.1]
        obtain ⟨L12, stC, hWC⟩ := hrd
        have hR12 := HRX.out.put_u2 (l := [(0, 1)]) stC (fun d hd => hd) (by rw [show s8.p2 = some wb2 from by rw [HS8.out]]; exact hWC)
        obtain ⟨s12, hs12⟩ : ∃ s12 : Rm, s12 = { s8 with u2 := [(0, 1)] } := ⟨_, rfl⟩
        rw [← hs12] at hR12
        have hst : s12.t2v = .slice none 0 0 ∧ s12.t2 = [] := by rw [hs12, HS8.out, HS7.out, HS0.out]; exact ⟨rfl, rfl⟩
        have x8 : w12.cell? ⟨mb, 8, none⟩ = some (.slice none 0 0) := by rw [← hst.1]; exact hR12.c0.2.2.2.2.2
        have HST2 := Lib.hid hst
        have HR12 := Lib.hid hR12
        have HS12 := Lib.hid hs12
        clear stC hWC hW2 rdx b0 b1 b2 hst hR12 hs12 HRX
        go_wp2_with fail
        have hnone : (Value.slice none 0 0).ownBlock = none := rfl
        obtain ⟨i0, hi, hz0, hz1, hz2⟩ := info_parts infoRead
        refine Late.region (fun w' => w'.cell? ⟨mb, 8, none⟩ = some (.slice none 0 0)) (fun j => decide (11 < j)) (by kernel_rfl) ?_
        obtain ⟨wx13, hwx⟩ : ∃ x, x = w12.drew := ⟨_, rfl⟩
        have hRx := HR12.out.drew
        have x8 : wx13.cell? ⟨mb, 8, none⟩ = some (.slice none 0 0) := by rw [hwx]; exact x8
        rw [← hwx] at hRx
        rw [← hwx]
        have fa : ∀ (bb oo : Nat) (u : Value) (o : Obj), wx13.cell? ⟨bb, oo, none⟩ = some u → (wx13.alloc o).cell? ⟨bb, oo, none⟩ = some u := fun bb oo u o hu => by rw [World.cell?_alloc_lt _ _ _ (World.block_lt_of_cell? _ _ hu)]; exact hu
        have hml := lt_of_heap hRx.obj
        have hmf : wx13.frozen? ⟨mb, 8, none⟩ = false := frozen_of_heap hRx.obj
        have fz : ∀ o, (wx13.alloc o).frozen? ⟨mb, 8, none⟩ = false := fun o => by rw [World.frozen?_alloc_old _ _ _ (Nat.ne_of_lt hml)]; exact hmf
        have HRx13 := Lib.hid hRx
        have HFA := Lib.hid fa
        clear hRx hwx fa
        refine Late.takeC (i := 0) (v := ?_) rfl (by kernel_rfl) (by kernel_rfl) (by kernel_rfl) (by kernel_rfl) (fun _ _ _ h => h) (Or.inl ⟨by rfl, ?_⟩) x8 ?_
        rotate_left
        · intro w' hS
          have s1 := hS
          go_simp
          rfl
        refine Late.takeC (i := 1) (v := ?_) rfl (by kernel_rfl) (by kernel_rfl) (by kernel_rfl) (by kernel_rfl) (fun _ _ _ h => h) (Or.inl ⟨by rfl, ?_⟩) x8 ?_
        rotate_left
        · intro w' hS
          have s1 := hS
          go_simp
          rfl
        refine Late.takeC (i := 2) (v := ?_) rfl (by kernel_rfl) (by kernel_rfl) (by kernel_rfl) (by kernel_rfl) (fun _ _ _ h => h) (Or.inl ⟨by rfl, ?_⟩) x8 ?_
        rotate_left
        · intro w' hS
          have s1 := hS
          go_simp
          rfl
        refine Late.takeC (i := 3) (v := ?_) rfl (by kernel_rfl) (by kernel_rfl) (by kernel_rfl) (by kernel_rfl) (fun _ _ _ h => h) (Or.inl ⟨by rfl, ?_⟩) x8 ?_
        rotate_left
        · intro w' hS
          have s1 := hS
          go_simp
          rfl
        refine Late.takeC (i := 4) (v := ?_) rfl (by kernel_rfl) (by kernel_rfl) (by kernel_rfl) (by kernel_rfl) (fun _ _ _ h => h) (Or.inl ⟨by rfl, ?_⟩) x8 ?_
        rotate_left
        · intro w' hS
          have s1 := hS
          go_simp
          rfl
        refine Late.takeC (i := 5) (v := ?_) rfl (by kernel_rfl) (by kernel_rfl) (by kernel_rfl) (by kernel_rfl) (fun _ _ _ h => h) (Or.inl ⟨by rfl, ?_⟩) x8 ?_
        rotate_left
        · intro w' hS
          have s1 := hS
          go_simp
          rfl
        refine Late.takeC (i := 6) (v := ?_) rfl (by kernel_rfl) (by kernel_rfl) (by kernel_rfl) (by kernel_rfl) (fun _ _ _ h => h) (Or.inl ⟨by rfl, ?_⟩) x8 ?_
        rotate_left
        · intro w' hS
          have s1 := hS
          go_simp
          rfl
        refine Late.takeC (i := 9) (v := ?_) rfl (by kernel_rfl) (by kernel_rfl) (by kernel_rfl) (by kernel_rfl) (fun _ _ _ h => h) (Or.inl ⟨by rfl, ?_⟩) x8 ?_
        rotate_left
        · intro w' hS
          have s1 := hS
          go_simp
          rfl
        refine Late.takeC (i := 10) (v := ?_) rfl (by kernel_rfl) (by kernel_rfl) (by kernel_rfl) (by kernel_rfl) (fun _ _ _ h => h) (Or.inl ⟨by rfl, ?_⟩) x8 ?_
        rotate_left
        · intro w' hS
          have s1 := hS
          go_simp
          rfl
        refine Late.one (i := 7) (by kernel_rfl) rfl (fun K hK => ?_)
        go_simp
        refine hK _ _ (fun _ => HFA.out _ _ _ _ x8) ?_
        clear hK K
        refine Late.one (i := 8) (by kernel_rfl) rfl (fun K hK => ?_)
        refine step_append_lies _ (by rfl) _ _ _ (by rfl) 0 62 i0 _ 2 16 Try.underlying57 hi hz0 hz1 hz2 rfl (by omega) (.slice none 0 0) 0 [] (by rfl) (World.ownsRow_nil _ _ _ _) ⟨wx13.heap.size, 0, none⟩ 1 1 [.int .i64 0, .int .i64 1] (by rfl) (by rfl) (World.news_of_block (cs := #[.int .i64 0, .int .i64 1]) (t := 62) (fr := (0, 0)) (heap_alloc_new wx13 _)) (by simp [Value.oneCell']) (by omega) (by unfold maxLen; omega) (by omega) (by omega) (wx13.heap.size + 1) (by simp) ?_
        intro gg cap1 wG hown1 hgrow hat hlt
        have ez : wG.frozen? ⟨mb, 8, none⟩ = false := (hgrow.frozen_far _ (by simp; omega) (by simp [Value.ownBlock])).trans (fz _)
        have x8 : wG.cell? ⟨mb, 8, none⟩ = some (.slice none 0 0) := (hgrow.cell_far _ (by simp; omega) (by simp [Value.ownBlock])).trans (HFA.out _ _ _ _ x8)
        refine hK _ _ (fun _ => x8) ?_
        clear hK K
        refine Late.one (i := 11) (by kernel_rfl) rfl (fun K hK => ?_)
        go_simp
        refine hK _ _ (fun _ => x8) ?_
        clear hK K
        refine Late.one (i := 12) (by kernel_rfl) rfl (fun K hK => ?_)
        go_simp
        refine hK _ _ (fun h => by cases h) ?_
        clear hK K
        refine Late.done (by kernel_rfl) ?_ _
        have ht2 := HRx13.out.told2
        rw [HST2.out.1, HST2.out.2] at ht2
        obtain ⟨L13, stI, o1, o2⟩ := list_grown (j := 8) (c := 8) (m := 1) (ys := rdCells [((0 : Int), (1 : Int))]) HRx13.out.obj HRx13.out.objc (by decide) ht2 (below_alloc wx13 (Obj.cells #[.int .i64 0, .int .i64 1] 62)) (by simpa [rdCells] using hown1) hgrow (by
          intro g hg
          have hg' : gg = g := by simpa [Value.ownBlock] using hg
          rw [← hg']
          rcases hat with h | h
          · cases h
          · right; omega)
        have hR13 := HRx13.out.put_t2v (l := [((0 : Int), (1 : Int))]) stI (fun d hd => hd) (by simpa [Rm.cells] using o1) o2
        obtain ⟨w13, hw13⟩ : ∃ x, x = wG.setCell ⟨mb, 8, none⟩ (.slice (some ⟨gg, 0, none⟩) 1 cap1) := ⟨_, rfl⟩
        obtain ⟨s13, hs13⟩ : ∃ s13 : Rm, s13 = { s12 with t2v := .slice (some ⟨gg, 0, none⟩) 1 cap1, t2 := [((0 : Int), (1 : Int))] } := ⟨_, rfl⟩
        rw [← hw13, ← hs13] at hR13
        try rw [← hw13]
        have HR13 := Lib.hid hR13
        have HS13 := Lib.hid hs13
        clear stI o1 o2 hown1 hgrow hat hlt ht2 hw13 hR13 hs13 ez x8 fz hmf hml hi hz0 hz1 hz2
        have hsav : s13.av = .slice (some ⟨w.heap.size, 0, none⟩) I I ∧ s13.N = n ∧ s13.p1 = some wb1 ∧ s13.lv = .slice none 0 0 ∧ s13.l = [] := by
          rw [HS13.out, HS12.out, HS8.out, HS7.out, HS0.out]; exact ⟨rfl, rfl, rfl, rfl, rfl⟩
        have HSV := Lib.hid hsav
        clear hsav
        have HM01 := Lib.hid (show ∀ (L' : Nat → Nat) (w' : World), Room w mb L' w' s13 → w'.cell? ⟨mb, 0, none⟩ = some (.slice (some ⟨w.heap.size, 0, none⟩) I I) ∧ w'.cell? ⟨mb, 1, none⟩ = some (.int .i64 (n : Int)) from fun L' w' hr => by have n5 := hr.c0; rw [HSV.out.1, HSV.out.2.1] at n5; exact ⟨n5.1, n5.2.1⟩)
        have hnI : n ≤ I := by have := HI.out; omega
        have hnI2 : (n : Int) ≤ (I : Int) := by omega
        go_upto_region 14 with fail
        go_cut [9] from 94 to 103 (fun x9 wx => ∃ (B : Nat) (Lx : Nat → Nat), x9 = .pointer (some ⟨B, 0, none⟩) ∧ Room w mb Lx wx s13 ∧ Cells Lx wx B 30 [.slice (some ⟨w.heap.size, 0, none⟩) n n, .int .i64 0, .pointer none])
        case first =>
          refine Late.region (fun w' => w'.cell? ⟨mb, 0, none⟩ = some (.slice (some ⟨w.heap.size, 0, none⟩) I I) ∧ w'.cell? ⟨mb, 1, none⟩ = some (.int .i64 (n : Int))) (fun j => decide (10 < j)) (by kernel_rfl) ?_
          obtain ⟨wx, hwx⟩ : ∃ x, x = w13.drew := ⟨_, rfl⟩
          have hRx := HR13.out.drew
          rw [← hwx] at hRx
          rw [← hwx]
          have HRx := Lib.hid hRx
          clear hRx hwx
          refine Late.takeC (i := 0) (v := ?_) rfl (by kernel_rfl) (by kernel_rfl) (by kernel_rfl) (by kernel_rfl) (fun _ _ _ h => h) (Or.inl ⟨by rfl, ?_⟩) (HM01.out _ _ HRx.out) ?_
          rotate_left
          · intro w' hS
            obtain ⟨s1, s2⟩ := hS
            go_simp
            rfl
          refine Late.takeC (i := 1) (v := ?_) rfl (by kernel_rfl) (by kernel_rfl) (by kernel_rfl) (by kernel_rfl) (fun _ _ _ h => h) (Or.inl ⟨by rfl, ?_⟩) (HM01.out _ _ HRx.out) ?_
          rotate_left
          · intro w' hS
            obtain ⟨s1, s2⟩ := hS
            go_simp
            rfl
          refine Late.takeC (i := 2) (v := ?_) rfl (by kernel_rfl) (by kernel_rfl) (by kernel_rfl) (by kernel_rfl) (fun _ _ _ h => h) (Or.inl ⟨by rfl, ?_⟩) (HM01.out _ _ HRx.out) ?_
          rotate_left
          · intro w' hS
            obtain ⟨s1, s2⟩ := hS
            go_simp
            rfl
          refine Late.takeC (i := 3) (v := ?_) rfl (by kernel_rfl) (by kernel_rfl) (by kernel_rfl) (by kernel_rfl) (fun _ _ _ h => h) (Or.inl ⟨by rfl, ?_⟩) (HM01.out _ _ HRx.out) ?_
          rotate_left
          · intro w' hS
            obtain ⟨s1, s2⟩ := hS
            go_simp
            rfl
          refine Late.takeC (i := 4) (v := ?_) rfl (by kernel_rfl) (by kernel_rfl) (by kernel_rfl) (by kernel_rfl) (fun _ _ _ h => h) (Or.inl ⟨by rfl, ?_⟩) (HM01.out _ _ HRx.out) ?_
          rotate_left
          · intro w' hS
            obtain ⟨s1, s2⟩ := hS
            go_simp
            rfl
          refine Late.takeC (i := 5) (v := ?_) rfl (by kernel_rfl) (by kernel_rfl) (by kernel_rfl) (by kernel_rfl) (fun _ _ _ h => h) (Or.inl ⟨by rfl, ?_⟩) (HM01.out _ _ HRx.out) ?_
          rotate_left
          · intro w' hS
            obtain ⟨s1, s2⟩ := hS
            go_simp
            rfl
          refine Late.takeC (i := 6) (v := ?_) rfl (by kernel_rfl) (by kernel_rfl) (by kernel_rfl) (by kernel_rfl) (fun _ _ _ h => h) (Or.inl ⟨by rfl, ?_⟩) (HM01.out _ _ HRx.out) ?_
          rotate_left
          · intro w' hS
            obtain ⟨s1, s2⟩ := hS
            go_simp
            rfl
          refine Late.takeC (i := 7) (v := ?_) rfl (by kernel_rfl) (by kernel_rfl) (by kernel_rfl) (by kernel_rfl) (fun _ _ _ h => h) (Or.inl ⟨by rfl, ?_⟩) (HM01.out _ _ HRx.out) ?_
          rotate_left
          · intro w' hS
            obtain ⟨s1, s2⟩ := hS
            go_simp
            rfl
          refine Late.takeC (i := 8) (v := ?_) rfl (by kernel_rfl) (by kernel_rfl) (by kernel_rfl) (by kernel_rfl) (fun _ _ _ h => h) (Or.inl ⟨by rfl, ?_⟩) (HM01.out _ _ HRx.out) ?_
          rotate_left
          · intro w' hS
            obtain ⟨s1, s2⟩ := hS
            go_simp
            rfl
          refine Late.two (i := 9) (k := 10) (by kernel_rfl) rfl rfl (fun K hK => ?_) (fun K hK => ?_)
          · go_simp
            refine (of_calls (some ⟨w.heap.size, 0, none⟩) n I (by omega) (by omega)).mono ?_; rintro r wn2 ⟨rfl, bn⟩
            obtain ⟨Ln2, stn⟩ : ∃ Ln, Step (fun _ => False) L13 wx Ln wn2 := ⟨_, Step.of_below bn _ 32⟩
            have hRn := HRx.out.move stn (fun _ x => x.elim)
            refine hK _ _ (fun _ => (HM01.out _ _ hRn)) ?_
            clear hK K
            have HRn2 := Lib.hid hRn
            clear hRn stn bn
            refine Late.one (i := 10) (by kernel_rfl) rfl (fun K hK => ?_)
            go_simp
            obtain ⟨wn3, hwn⟩ : ∃ x, x = wn2.alloc (.cells #[.slice none 0 0, .int .i64 0, .pointer none] 51) := ⟨_, rfl⟩
            obtain ⟨Ln3, stn, hzb⟩ : ∃ Ln, Step (fun _ => False) Ln2 wn2 Ln wn3 ∧ wn3.heap[wn2.heap.size]? = some (.cells #[.slice none 0 0, .int .i64 0, .pointer none] 51 (0, 0)) ∧ Ln wn2.heap.size = 30 := by rw [hwn]; exact ⟨_, Step.of_below (below_alloc wn2 _) _ 30, heap_alloc_new wn2 _, ext_new (Nat.le_refl _)⟩
            obtain ⟨B3, hB3⟩ : ∃ B, B = wn2.heap.size := ⟨_, rfl⟩
            rw [← hB3] at hzb
            have HZ3 := Lib.hid hzb
            clear hzb
            have hRn := HRn2.out.move stn (fun _ x => x.elim)
            refine hK _ _ (fun _ => by rw [← hwn]; exact (HM01.out _ _ hRn)) ?_
            clear hK K
            rw [← hwn]
            clear hwn
            rw [← hB3]
            have HB3 := Lib.hid hB3
            clear hB3
            have HRn3 := Lib.hid hRn
            clear hRn stn
            refine Late.one (i := 11) (by kernel_rfl) rfl (fun K hK => ?_)
            have z0 : wn3.cell? ⟨B3, 0, none⟩ = some (.slice none 0 0) := by rw [cell_of_heap HZ3.out.1]; rfl
            have f0 : wn3.frozen? ⟨B3, 0, none⟩ = false := frozen_of_heap HZ3.out.1
            have z1 : wn3.cell? ⟨B3, 1, none⟩ = some (.int .i64 0) := by rw [cell_of_heap HZ3.out.1]; rfl
            have f1 : wn3.frozen? ⟨B3, 1, none⟩ = false := frozen_of_heap HZ3.out.1
            have z2 : wn3.cell? ⟨B3, 2, none⟩ = some (.pointer none) := by rw [cell_of_heap HZ3.out.1]; rfl
            have f2 : wn3.frozen? ⟨B3, 2, none⟩ = false := frozen_of_heap HZ3.out.1
            go_simp
            refine hK _ _ (fun h => by cases h) ?_
            clear hK K
            refine Late.done (by kernel_rfl) ?_ _
            go_wp2_with fail
            go_meet
            case rel =>
              obtain ⟨st3, c3⟩ := store3 HZ3.out.1 HZ3.out.2 (.slice (some ⟨w.heap.size, 0, none⟩) n n) (.int .i64 0) (.pointer none)
              exact ⟨B3, Ln3, rfl, HRn3.out.move st3 (fun d hd => by rw [show d = 30 from hd]; omega), c3⟩
          · go_simp
            obtain ⟨wn4, hwn⟩ : ∃ x, x = wx.alloc (.cells #[.slice none 0 0, .int .i64 0, .pointer none] 51) := ⟨_, rfl⟩
            obtain ⟨Ln4, stn, hzb⟩ : ∃ Ln, Step (fun _ => False) L13 wx Ln wn4 ∧ wn4.heap[wx.heap.size]? = some (.cells #[.slice none 0 0, .int .i64 0, .pointer none] 51 (0, 0)) ∧ Ln wx.heap.size = 30 := by rw [hwn]; exact ⟨_, Step.of_below (below_alloc wx _) _ 30, heap_alloc_new wx _, ext_new (Nat.le_refl _)⟩
            obtain ⟨B4, hB4⟩ : ∃ B, B = wx.heap.size := ⟨_, rfl⟩
            rw [← hB4] at hzb
            have HZ4 := Lib.hid hzb
            clear hzb
            have hRn := HRx.out.move stn (fun _ x => x.elim)
            refine hK _ _ (fun _ => by rw [← hwn]; exact (HM01.out _ _ hRn)) ?_
            clear hK K
            rw [← hwn]
            clear hwn
            rw [← hB4]
            have HB4 := Lib.hid hB4
            clear hB4
            have HRn4 := Lib.hid hRn
            clear hRn stn
            refine Late.one (i := 9) (by kernel_rfl) rfl (fun K hK => ?_)
            go_simp
            refine (of_calls (some ⟨w.heap.size, 0, none⟩) n I (by omega) (by omega)).mono ?_; rintro r wn5 ⟨rfl, bn⟩
            obtain ⟨Ln5, stn⟩ : ∃ Ln, Step (fun _ => False) Ln4 wn4 Ln wn5 := ⟨_, Step.of_below bn _ 32⟩
            have hRn := HRn4.out.move stn (fun _ x => x.elim)
            have HZ5 := Lib.hid (And.intro (stn.heap HZ4.out.1 (fun x => x)) ((stn.col _ (lt_of_heap HZ4.out.1)).trans HZ4.out.2))
            refine hK _ _ (fun _ => (HM01.out _ _ hRn)) ?_
            clear hK K
            have HRn5 := Lib.hid hRn
            clear hRn stn bn
            refine Late.one (i := 11) (by kernel_rfl) rfl (fun K hK => ?_)
            have z0 : wn5.cell? ⟨B4, 0, none⟩ = some (.slice none 0 0) := by rw [cell_of_heap HZ5.out.1]; rfl
            have f0 : wn5.frozen? ⟨B4, 0, none⟩ = false := frozen_of_heap HZ5.out.1
            have z1 : wn5.cell? ⟨B4, 1, none⟩ = some (.int .i64 0) := by rw [cell_of_heap HZ5.out.1]; rfl
            have f1 : wn5.frozen? ⟨B4, 1, none⟩ = false := frozen_of_heap HZ5.out.1
            have z2 : wn5.cell? ⟨B4, 2, none⟩ = some (.pointer none) := by rw [cell_of_heap HZ5.out.1]; rfl
            have f2 : wn5.frozen? ⟨B4, 2, none⟩ = false := frozen_of_heap HZ5.out.1
            go_simp
            refine hK _ _ (fun h => by cases h) ?_
            clear hK K
            refine Late.done (by kernel_rfl) ?_ _
            go_wp2_with fail
            go_meet
            case rel =>
              obtain ⟨st3, c3⟩ := store3 HZ5.out.1 HZ5.out.2 (.slice (some ⟨w.heap.size, 0, none⟩) n n) (.int .i64 0) (.pointer none)
              exact ⟨B4, Ln5, rfl, HRn5.out.move st3 (fun d hd => by rw [show d = 30 from hd]; omega), c3⟩
        case rest =>
          obtain ⟨B2, LX, rfl, hRX, cV⟩ := hcut
          have HRX2 := Lib.hid hRX
          clear hRX
          go_upto_region 15 with fail
          go_cut [10] from 104 to 113 (fun x10 wx => ∃ (B : Nat) (Lx : Nat → Nat), x10 = .pointer (some ⟨B, 0, none⟩) ∧ Room w mb Lx wx s13 ∧ Cells Lx wx B2 30 [.slice (some ⟨w.heap.size, 0, none⟩) n n, .int .i64 0, .pointer none] ∧ Cells Lx wx B 33 [.slice (some ⟨w.heap.size, 0, none⟩) n I, .int .i64 0])
          case first =>
            refine Late.region (fun w' => w'.cell? ⟨mb, 0, none⟩ = some (.slice (some ⟨w.heap.size, 0, none⟩) I I) ∧ w'.cell? ⟨mb, 1, none⟩ = some (.int .i64 (n : Int))) (fun j => decide (10 < j)) (by kernel_rfl) ?_
            obtain ⟨wx, hwx⟩ : ∃ x, x = wc.drew := ⟨_, rfl⟩
            have hRx := HRX2.out.drew
            rw [← hwx] at hRx
            rw [← hwx]
            have HRx := Lib.hid hRx
            have cV_x : Cells LX wx B2 30 [.slice (some ⟨w.heap.size, 0, none⟩) n n, .int .i64 0, .pointer none] := by rw [hwx]; exact cV
            clear hRx hwx
            refine Late.takeC (i := 0) (v := ?_) rfl (by kernel_rfl) (by kernel_rfl) (by kernel_rfl) (by kernel_rfl) (fun _ _ _ h => h) (Or.inl ⟨by rfl, ?_⟩) (HM01.out _ _ HRx.out) ?_
            rotate_left
            · intro w' hS
              obtain ⟨s1, s2⟩ := hS
              go_simp
              rfl
            refine Late.takeC (i := 1) (v := ?_) rfl (by kernel_rfl) (by kernel_rfl) (by kernel_rfl) (by kernel_rfl) (fun _ _ _ h => h) (Or.inl ⟨by rfl, ?_⟩) (HM01.out _ _ HRx.out) ?_
            rotate_left
            · intro w' hS
              obtain ⟨s1, s2⟩ := hS
              go_simp
              rfl
            refine Late.takeC (i := 2) (v := ?_) rfl (by kernel_rfl) (by kernel_rfl) (by kernel_rfl) (by kernel_rfl) (fun _ _ _ h => h) (Or.inl ⟨by rfl, ?_⟩) (HM01.out _ _ HRx.out) ?_
            rotate_left
            · intro w' hS
              obtain ⟨s1, s2⟩ := hS
              go_simp
              rfl
            refine Late.takeC (i := 3) (v := ?_) rfl (by kernel_rfl) (by kernel_rfl) (by kernel_rfl) (by kernel_rfl) (fun _ _ _ h => h) (Or.inl ⟨by rfl, ?_⟩) (HM01.out _ _ HRx.out) ?_
            rotate_left
            · intro w' hS
              obtain ⟨s1, s2⟩ := hS
              go_simp
              rfl
            refine Late.takeC (i := 4) (v := ?_) rfl (by kernel_rfl) (by kernel_rfl) (by kernel_rfl) (by kernel_rfl) (fun _ _ _ h => h) (Or.inl ⟨by rfl, ?_⟩) (HM01.out _ _ HRx.out) ?_
            rotate_left
            · intro w' hS
              obtain ⟨s1, s2⟩ := hS
              go_simp
              rfl
            refine Late.takeC (i := 5) (v := ?_) rfl (by kernel_rfl) (by kernel_rfl) (by kernel_rfl) (by kernel_rfl) (fun _ _ _ h => h) (Or.inl ⟨by rfl, ?_⟩) (HM01.out _ _ HRx.out) ?_
            rotate_left
            · intro w' hS
              obtain ⟨s1, s2⟩ := hS
              go_simp
              rfl
            refine Late.takeC (i := 6) (v := ?_) rfl (by kernel_rfl) (by kernel_rfl) (by kernel_rfl) (by kernel_rfl) (fun _ _ _ h => h) (Or.inl ⟨by rfl, ?_⟩) (HM01.out _ _ HRx.out) ?_
            rotate_left
            · intro w' hS
              obtain ⟨s1, s2⟩ := hS
              go_simp
              rfl
            refine Late.takeC (i := 7) (v := ?_) rfl (by kernel_rfl) (by kernel_rfl) (by kernel_rfl) (by kernel_rfl) (fun _ _ _ h => h) (Or.inl ⟨by rfl, ?_⟩) (HM01.out _ _ HRx.out) ?_
            rotate_left
            · intro w' hS
              obtain ⟨s1, s2⟩ := hS
              go_simp
              rfl
            refine Late.takeC (i := 8) (v := ?_) rfl (by kernel_rfl) (by kernel_rfl) (by kernel_rfl) (by kernel_rfl) (fun _ _ _ h => h) (Or.inl ⟨by rfl, ?_⟩) (HM01.out _ _ HRx.out) ?_
            rotate_left
            · intro w' hS
              obtain ⟨s1, s2⟩ := hS
              go_simp
              rfl
            refine Late.takeC (i := 9) (v := ?_) rfl (by kernel_rfl) (by kernel_rfl) (by kernel_rfl) (by kernel_rfl) (fun _ _ _ h => h) (Or.inl ⟨by rfl, ?_⟩) (HM01.out _ _ HRx.out) ?_
            rotate_left
            · intro w' hS
              obtain ⟨s1, s2⟩ := hS
              go_simp
              rfl
            refine Late.one (i := 10) (by kernel_rfl) rfl (fun K hK => ?_)
            go_simp
            obtain ⟨wn1, hwn⟩ : ∃ x, x = wx.alloc (.cells #[.slice none 0 0, .int .i64 0] 106) := ⟨_, rfl⟩
            obtain ⟨Ln1, stn, hzb⟩ : ∃ Ln, Step (fun _ => False) LX wx Ln wn1 ∧ wn1.heap[wx.heap.size]? = some (.cells #[.slice none 0 0, .int .i64 0] 106 (0, 0)) ∧ Ln wx.heap.size = 33 := by rw [hwn]; exact ⟨_, Step.of_below (below_alloc wx _) _ 33, heap_alloc_new wx _, ext_new (Nat.le_refl _)⟩
            obtain ⟨B1, hB1⟩ : ∃ B, B = wx.heap.size := ⟨_, rfl⟩
            rw [← hB1] at hzb
            have HZ1 := Lib.hid hzb
            clear hzb
            have hRn := HRx.out.move stn (fun _ x => x.elim)
            have cV_1 : Cells Ln1 wn1 B2 30 [.slice (some ⟨w.heap.size, 0, none⟩) n n, .int .i64 0, .pointer none] := cV_x.step stn (fun x => x)
            refine hK _ _ (fun _ => by rw [← hwn]; exact (HM01.out _ _ hRn)) ?_
            clear hK K
            rw [← hwn]
            clear hwn
            rw [← hB1]
            have HB1 := Lib.hid hB1
            clear hB1
            have HRn1 := Lib.hid hRn
            clear hRn stn
            refine Late.one (i := 11) (by kernel_rfl) rfl (fun K hK => ?_)
            have z0 : wn1.cell? ⟨B1, 0, none⟩ = some (.slice none 0 0) := by rw [cell_of_heap HZ1.out.1]; rfl
            have f0 : wn1.frozen? ⟨B1, 0, none⟩ = false := frozen_of_heap HZ1.out.1
            have z1 : wn1.cell? ⟨B1, 1, none⟩ = some (.int .i64 0) := by rw [cell_of_heap HZ1.out.1]; rfl
            have f1 : wn1.frozen? ⟨B1, 1, none⟩ = false := frozen_of_heap HZ1.out.1
            go_simp
            refine hK _ _ (fun h => by cases h) ?_
            clear hK K
            refine Late.done (by kernel_rfl) ?_ _
            go_wp2_with fail
            go_meet
            case rel =>
              obtain ⟨st3, c3⟩ := store2 HZ1.out.1 HZ1.out.2 (.slice (some ⟨w.heap.size, 0, none⟩) n I) (.int .i64 0)
              exact ⟨B1, Ln1, rfl, HRn1.out.move st3 (fun d hd => by rw [show d = 33 from hd]; omega), cV_1.step st3 (by omega), c3⟩
          case rest =>
            obtain ⟨B3, LX, rfl, hRX, cV, cR⟩ := hcut
            have HRX3 := Lib.hid hRX
            have HLN := Lib.hid (show s13.l = [] from HSV.out.2.2.2.2)
            clear hRX
            have v0 : wc.cell? ⟨B2, 0, none⟩ = some (.slice (some ⟨w.heap.size, 0, none⟩) n n) := cV.2.2 0 _ rfl
            have v1 : wc.cell? ⟨B2, 1, none⟩ = some (.int .i64 0) := cV.2.2 1 _ rfl
            have v2 : wc.cell? ⟨B2, 2, none⟩ = some (.pointer none) := cV.2.2 2 _ rfl
            have r0 : wc.cell? ⟨B3, 0, none⟩ = some (.slice (some ⟨w.heap.size, 0, none⟩) n I) := cR.2.2 0 _ rfl
            have r1 : wc.cell? ⟨B3, 1, none⟩ = some (.int .i64 0) := cR.2.2 1 _ rfl
            have wv : wc.cell? ⟨mb, 4, none⟩ = some (.pointer (some ⟨wb1, 0, none⟩)) := by
              have n4 := HRX3.out.c0.2.2.2.1; rw [HSV.out.2.2.1] at n4; exact n4
            go_upto_region 16 with fail
            obtain ⟨pv, kv, hv0, _⟩ := ownsRow_shape HRX3.out.list.1
            have lv : wc.cell? ⟨mb, 2, none⟩ = some (.slice pv s13.l.length kv) := by rw [cell_of_heap HRX3.out.obj, ← hv0]; rfl
            have hll : s13.l.length ≤ 3 := by rw [HLN.out]; simp
            have HV0 := Lib.hid hv0
            clear hv0
            obtain ⟨i0, hi, hz0, hz1, hz2⟩ := info_parts infoSeen
            refine Late.region (fun w' => w'.cell? ⟨mb, 2, none⟩ = some (.slice pv s13.l.length kv) ∧ w'.cell? ⟨B2, 0, none⟩ = some (.slice (some ⟨w.heap.size, 0, none⟩) n n) ∧ w'.cell? ⟨B2, 1, none⟩ = some (.int .i64 0) ∧ w'.cell? ⟨B2, 2, none⟩ = some (.pointer none) ∧ w'.cell? ⟨mb, 4, none⟩ = some (.pointer (some ⟨wb1, 0, none⟩)) ∧ w'.cell? ⟨B3, 0, none⟩ = some (.slice (some ⟨w.heap.size, 0, none⟩) n I) ∧ w'.cell? ⟨B3, 1, none⟩ = some (.int .i64 0)) (fun j => decide (17 < j)) (by kernel_rfl) ?_
            obtain ⟨wy16, hwx⟩ : ∃ x, x = wc.drew := ⟨_, rfl⟩
            have hRx := HRX3.out.drew
            rw [← hwx] at hRx
            have lv : wc.drew.cell? _ = _ := lv
            rw [← hwx] at lv
            have v0 : wc.drew.cell? _ = _ := v0
            rw [← hwx] at v0
            have v1 : wc.drew.cell? _ = _ := v1
            rw [← hwx] at v1
            have v2 : wc.drew.cell? _ = _ := v2
            rw [← hwx] at v2
            have wv : wc.drew.cell? _ = _ := wv
            rw [← hwx] at wv
            have r0 : wc.drew.cell? _ = _ := r0
            rw [← hwx] at r0
            have r1 : wc.drew.cell? _ = _ := r1
            rw [← hwx] at r1
            have cV : Cells LX wy16 B2 30 [.slice (some ⟨w.heap.size, 0, none⟩) n n, .int .i64 0, .pointer none] := by rw [hwx]; exact cV
            have cR : Cells LX wy16 B3 33 [.slice (some ⟨w.heap.size, 0, none⟩) n I, .int .i64 0] := by rw [hwx]; exact cR
            rw [← hwx]
            have HRx := Lib.hid hRx
            clear hRx hwx
            refine Late.takeC (i := 0) (v := ?_) rfl (by kernel_rfl) (by kernel_rfl) (by kernel_rfl) (by kernel_rfl) (fun _ _ _ h => h) (Or.inl ⟨by rfl, ?_⟩) ⟨lv, v0, v1, v2, wv, r0, r1⟩ ?_
            rotate_left
            · intro w' hS
              obtain ⟨s1, s2, s3, s4, s5, s6, s7⟩ := hS
              go_simp
              rfl
            refine Late.takeC (i := 1) (v := ?_) rfl (by kernel_rfl) (by kernel_rfl) (by kernel_rfl) (by kernel_rfl) (fun _ _ _ h => h) (Or.inl ⟨by rfl, ?_⟩) ⟨lv, v0, v1, v2, wv, r0, r1⟩ ?_
            rotate_left
            · intro w' hS
              obtain ⟨s1, s2, s3, s4, s5, s6, s7⟩ := hS
              go_simp
              rfl
            refine Late.takeC (i := 2) (v := ?_) rfl (by kernel_rfl) (by kernel_rfl) (by kernel_rfl) (by kernel_rfl) (fun _ _ _ h => h) (Or.inl ⟨by rfl, ?_⟩) ⟨lv, v0, v1, v2, wv, r0, r1⟩ ?_
            rotate_left
            · intro w' hS
              obtain ⟨s1, s2, s3, s4, s5, s6, s7⟩ := hS
              go_simp
              rfl
            refine Late.takeC (i := 3) (v := ?_) rfl (by kernel_rfl) (by kernel_rfl) (by kernel_rfl) (by kernel_rfl) (fun _ _ _ h => h) (Or.inl ⟨by rfl, ?_⟩) ⟨lv, v0, v1, v2, wv, r0, r1⟩ ?_
            rotate_left
            · intro w' hS
              obtain ⟨s1, s2, s3, s4, s5, s6, s7⟩ := hS
              go_simp
              rfl
            refine Late.takeC (i := 4) (v := ?_) rfl (by kernel_rfl) (by kernel_rfl) (by kernel_rfl) (by kernel_rfl) (fun _ _ _ h => h) (Or.inl ⟨by rfl, ?_⟩) ⟨lv, v0, v1, v2, wv, r0, r1⟩ ?_
            rotate_left
            · intro w' hS
              obtain ⟨s1, s2, s3, s4, s5, s6, s7⟩ := hS
              go_simp
              rfl
            refine Late.takeC (i := 5) (v := ?_) rfl (by kernel_rfl) (by kernel_rfl) (by kernel_rfl) (by kernel_rfl) (fun _ _ _ h => h) (Or.inl ⟨by rfl, ?_⟩) ⟨lv, v0, v1, v2, wv, r0, r1⟩ ?_
            rotate_left
            · intro w' hS
              obtain ⟨s1, s2, s3, s4, s5, s6, s7⟩ := hS
              go_simp
              rfl
            refine Late.takeC (i := 6) (v := ?_) rfl (by kernel_rfl) (by kernel_rfl) (by kernel_rfl) (by kernel_rfl) (fun _ _ _ h => h) (Or.inl ⟨by rfl, ?_⟩) ⟨lv, v0, v1, v2, wv, r0, r1⟩ ?_
            rotate_left
            · intro w' hS
              obtain ⟨s1, s2, s3, s4, s5, s6, s7⟩ := hS
              go_simp
              rfl
            refine Late.takeC (i := 7) (v := ?_) rfl (by kernel_rfl) (by kernel_rfl) (by kernel_rfl) (by kernel_rfl) (fun _ _ _ h => h) (Or.inl ⟨by rfl, ?_⟩) ⟨lv, v0, v1, v2, wv, r0, r1⟩ ?_
            rotate_left
            · intro w' hS
              obtain ⟨s1, s2, s3, s4, s5, s6, s7⟩ := hS
              go_simp
              rfl
            refine Late.takeC (i := 8) (v := ?_) rfl (by kernel_rfl) (by kernel_rfl) (by kernel_rfl) (by kernel_rfl) (fun _ _ _ h => h) (Or.inl ⟨by rfl, ?_⟩) ⟨lv, v0, v1, v2, wv, r0, r1⟩ ?_
            rotate_left
            · intro w' hS
              obtain ⟨s1, s2, s3, s4, s5, s6, s7⟩ := hS
              go_simp
              rfl
            refine Late.takeC (i := 9) (v := ?_) rfl (by kernel_rfl) (by kernel_rfl) (by kernel_rfl) (by kernel_rfl) (fun _ _ _ h => h) (Or.inl ⟨by rfl, ?_⟩) ⟨lv, v0, v1, v2, wv, r0, r1⟩ ?_
            rotate_left
            · intro w' hS
              obtain ⟨s1, s2, s3, s4, s5, s6, s7⟩ := hS
              go_simp
              rfl
            refine Late.takeC (i := 10) (v := ?_) rfl (by kernel_rfl) (by kernel_rfl) (by kernel_rfl) (by kernel_rfl) (fun _ _ _ h => h) (Or.inl ⟨by rfl, ?_⟩) ⟨lv, v0, v1, v2, wv, r0, r1⟩ ?_
            rotate_left
            · intro w' hS
              obtain ⟨s1, s2, s3, s4, s5, s6, s7⟩ := hS
              go_simp
              rfl
            refine Late.takeC (i := 12) (v := ?_) rfl (by kernel_rfl) (by kernel_rfl) (by kernel_rfl) (by kernel_rfl) (fun _ _ _ h => h) (Or.inl ⟨by rfl, ?_⟩) ⟨lv, v0, v1, v2, wv, r0, r1⟩ ?_
            rotate_left
            · intro w' hS
              obtain ⟨s1, s2, s3, s4, s5, s6, s7⟩ := hS
              go_simp
              rfl
            refine Late.one (i := 11) (by kernel_rfl) rfl (fun K hK => ?_)
            go_simp
            refine (watched_calls (some ⟨w.heap.size, 0, none⟩) n n 0 none (some ⟨wb1, 0, none⟩)).mono ?_; rintro r wD16 ⟨rfl, bD⟩
            obtain ⟨LD16, stD⟩ : ∃ Ln, Step (fun _ => False) LX wy16 Ln wD16 := ⟨_, Step.of_below bD _ 32⟩
            have hRD := HRx.out.move stD (fun _ x => x.elim)
            have lv := stD.cell lv (fun x => x)
            have v0 := stD.cell v0 (fun x => x)
            have v1 := stD.cell v1 (fun x => x)
            have v2 := stD.cell v2 (fun x => x)
            have wv := stD.cell wv (fun x => x)
            have r0 := stD.cell r0 (fun x => x)
            have r1 := stD.cell r1 (fun x => x)
            have cV : Cells LD16 wD16 B2 30 [.slice (some ⟨w.heap.size, 0, none⟩) n n, .int .i64 0, .pointer none] := cV.step stD (fun x => x)
            have cR : Cells LD16 wD16 B3 33 [.slice (some ⟨w.heap.size, 0, none⟩) n I, .int .i64 0] := cR.step stD (fun x => x)
            refine hK _ _ (fun _ => ⟨lv, v0, v1, v2, wv, r0, r1⟩) ?_
            clear hK K
            clear bD stD
            have HRD := Lib.hid hRD
            clear hRD
            refine Late.one (i := 13) (by kernel_rfl) rfl (fun K hK => ?_)
            go_simp
            refine hK _ _ (fun _ => ⟨lv, v0, v1, v2, wv, r0, r1⟩) ?_
            clear hK K
            have hmf : wD16.frozen? ⟨mb, 2, none⟩ = false := frozen_of_heap HRD.out.obj
            have hml2 := lt_of_heap HRD.out.obj
            have hownD : wD16.ownsRow 0 108 6 (.slice pv s13.l.length kv) s13.l.length (enCells s13.l) := by rw [← HV0.out]; exact HRD.out.list.1
            have hne_mb : some mb ≠ (Value.slice pv s13.l.length kv).ownBlock := by
              intro e; have := HRD.out.list.2 mb (by rw [HV0.out]; exact e.symm); rw [HRD.out.objc] at this; cases this
            have hne_cV := show some _ ≠ (Value.slice pv s13.l.length kv).ownBlock from fun e => by
              have h1 := HRD.out.list.2 _ (by rw [HV0.out]; exact e.symm); rw [cV.2.1] at h1; cases h1
            have hne_cR := show some _ ≠ (Value.slice pv s13.l.length kv).ownBlock from fun e => by
              have h1 := HRD.out.list.2 _ (by rw [HV0.out]; exact e.symm); rw [cR.2.1] at h1; cases h1
            have fz : ∀ o, (wD16.alloc o).frozen? ⟨mb, 2, none⟩ = false := fun o => by rw [World.frozen?_alloc_old _ _ _ (Nat.ne_of_lt hml2)]; exact hmf
            have fa : ∀ (bb oo : Nat) (u : Value) (o : Obj), wD16.cell? ⟨bb, oo, none⟩ = some u → (wD16.alloc o).cell? ⟨bb, oo, none⟩ = some u := fun bb oo u o hu => by rw [World.cell?_alloc_lt _ _ _ (World.block_lt_of_cell? _ _ hu)]; exact hu
            have HFA := Lib.hid fa
            clear fa
            refine Late.one (i := 14) (by kernel_rfl) rfl (fun K hK => ?_)
            go_simp
            refine hK _ _ (fun _ => ⟨HFA.out _ _ _ _ lv, HFA.out _ _ _ _ v0, HFA.out _ _ _ _ v1, HFA.out _ _ _ _ v2, HFA.out _ _ _ _ wv, HFA.out _ _ _ _ r0, HFA.out _ _ _ _ r1⟩) ?_
            clear hK K
            refine Late.one (i := 15) (by kernel_rfl) rfl (fun K hK => ?_)
            refine step_append_lies _ (by rfl) _ _ _ (by rfl) 0 108 i0 _ 6 80 Try.underlying93 hi hz0 hz1 hz2 rfl (by omega) (.slice pv s13.l.length kv) s13.l.length (enCells s13.l) (by rfl) (hownD.alloc _) ⟨wD16.heap.size, 0, none⟩ 1 1 [.slice (some ⟨w.heap.size, 0, none⟩) n n, .int .i64 0, .pointer (some ⟨wb1, 0, none⟩), .slice (some ⟨w.heap.size, 0, none⟩) n I, .int .i64 0, .int .i64 1] (by rfl) (by rfl) (World.news_of_block (cs := #[.slice (some ⟨w.heap.size, 0, none⟩) n n, .int .i64 0, .pointer (some ⟨wb1, 0, none⟩), .slice (some ⟨w.heap.size, 0, none⟩) n I, .int .i64 0, .int .i64 1]) (t := 108) (fr := (0, 0)) (heap_alloc_new wD16 _)) (by simp [Value.oneCell']) (by omega) (by unfold maxLen; omega) (by omega) (by omega) (wD16.heap.size + 1) (by simp) ?_
            intro gg16 cap16 wG16 hown1 hgrow hat hlt
            have far : ∀ {bb oo u}, wD16.cell? ⟨bb, oo, none⟩ = some u → some bb ≠ (Value.slice pv s13.l.length kv).ownBlock → wG16.cell? ⟨bb, oo, none⟩ = some u := fun hu hn =>
              (hgrow.cell_far _ (by have := World.block_lt_of_cell? _ _ hu; simp at this ⊢; omega) hn).trans (HFA.out _ _ _ _ hu)
            have ez : wG16.frozen? ⟨mb, 2, none⟩ = false := (hgrow.frozen_far _ (by simp; omega) hne_mb).trans (fz _)
            have lv := far lv hne_mb
            have v0 := far v0 hne_cV
            have v1 := far v1 hne_cV
            have v2 := far v2 hne_cV
            have wv := far wv hne_mb
            have r0 := far r0 hne_cR
            have r1 := far r1 hne_cR
            refine hK _ _ (fun _ => ⟨lv, v0, v1, v2, wv, r0, r1⟩) ?_
            clear hK K far
            refine Late.one (i := 16) (by kernel_rfl) rfl (fun K hK => ?_)
            go_simp
            refine hK _ _ (fun _ => ⟨lv, v0, v1, v2, wv, r0, r1⟩) ?_
            clear hK K
            refine Late.one (i := 17) (by kernel_rfl) rfl (fun K hK => ?_)
            go_simp
            refine hK _ _ (fun _ => ⟨lv, v0, v1, v2, wv, r0, r1⟩) ?_
            clear hK K
            refine Late.one (i := 18) (by kernel_rfl) rfl (fun K hK => ?_)
            go_simp
            refine hK _ _ (fun h => by cases h) ?_
            clear hK K
            refine Late.done (by kernel_rfl) ?_ _
            obtain ⟨en16, hen⟩ : ∃ en : En, en = En.mk 0 n (.slice (some ⟨w.heap.size, 0, none⟩) n n) (.slice (some ⟨w.heap.size, 0, none⟩) n I) 1 (some wb1) := ⟨_, rfl⟩
            have hown2 : wG16.ownsRow 0 108 6 (.slice (some ⟨gg16, 0, none⟩) (s13.l.length + 1) cap16) (s13.l ++ [en16]).length (enCells (s13.l ++ [en16])) := by
              rw [enCells_append, List.length_append, hen]; exact hown1
            obtain ⟨L16, stI, o1, o2⟩ := list_grown (j := 2) HRD.out.obj HRD.out.objc (c := 15) (by decide) HRD.out.list (below_alloc wD16 (Obj.cells #[.slice (some ⟨w.heap.size, 0, none⟩) n n, .int .i64 0, .pointer (some ⟨wb1, 0, none⟩), .slice (some ⟨w.heap.size, 0, none⟩) n I, .int .i64 0, .int .i64 1] 108)) hown2 (by rw [HV0.out]; exact hgrow) (by
              intro g hg
              have hg' : gg16 = g := by simpa [Value.ownBlock] using hg
              rw [← hg', HV0.out]
              rcases hat with h | h
              · exact .inl h
              · right; omega)
            have hRI := HRD.out.put_lv stI (fun d hd => hd) (by simpa [Rm.cells] using o1) o2
            obtain ⟨s16, hs16⟩ : ∃ x : Rm, x = { s13 with lv := .slice (some ⟨gg16, 0, none⟩) (s13.l.length + 1) cap16, l := s13.l ++ [en16] } := ⟨_, rfl⟩
            obtain ⟨w16, hw16⟩ : ∃ x, x = wG16.setCell ⟨mb, 2, none⟩ (.slice (some ⟨gg16, 0, none⟩) (s13.l.length + 1) cap16) := ⟨_, rfl⟩
            have cV : Cells L16 w16 B2 30 [.slice (some ⟨w.heap.size, 0, none⟩) n n, .int .i64 0, .pointer none] := by rw [hw16]; exact cV.step stI (by omega)
            have cR : Cells L16 w16 B3 33 [.slice (some ⟨w.heap.size, 0, none⟩) n I, .int .i64 0] := by rw [hw16]; exact cR.step stI (by omega)
            rw [← hw16, ← hs16] at hRI
            try rw [← hw16]
            have HL16 := Lib.hid (show s16.l = s13.l ++ [en16] from by rw [hs16])
            have HR16 := Lib.hid hRI
            have HS16 := Lib.hid hs16
            have HEN16 := Lib.hid hen
            clear hRI hs16 hw16 hen stI o1 o2 hown2 hown1 hgrow hat hlt hownD hmf hml2 fz hne_cV hne_cR hne_mb ez lv v0 v1 v2 wv r0 r1 hi hz0 hz1 hz2 hll HV0 HFA
            have HLA := Lib.hid (show s16.l = [en16] from by rw [HL16.out, HLN.out]; rfl)
            have v0 : w16.cell? ⟨B2, 0, none⟩ = some (.slice (some ⟨w.heap.size, 0, none⟩) n n) := cV.2.2 0 _ rfl
            have v1 : w16.cell? ⟨B2, 1, none⟩ = some (.int .i64 0) := cV.2.2 1 _ rfl
            have v2 : w16.cell? ⟨B2, 2, none⟩ = some (.pointer none) := cV.2.2 2 _ rfl
            have r0 : w16.cell? ⟨B3, 0, none⟩ = some (.slice (some ⟨w.heap.size, 0, none⟩) n I) := cR.2.2 0 _ rfl
            have r1 : w16.cell? ⟨B3, 1, none⟩ = some (.int .i64 0) := cR.2.2 1 _ rfl
            go_upto_region 17 with fail
            obtain ⟨pv, kv, hv0, _⟩ := ownsRow_shape HR16.out.list.1
            have lv : w16.cell? ⟨mb, 2, none⟩ = some (.slice pv s16.l.length kv) := by rw [cell_of_heap HR16.out.obj, ← hv0]; rfl
            have hll : s16.l.length ≤ 3 := by rw [HLA.out]; simp
            have HV0 := Lib.hid hv0
            clear hv0
            obtain ⟨i0, hi, hz0, hz1, hz2⟩ := info_parts infoSeen
            refine Late.region (fun w' => w'.cell? ⟨mb, 2, none⟩ = some (.slice pv s16.l.length kv) ∧ w'.cell? ⟨B2, 0, none⟩ = some (.slice (some ⟨w.heap.size, 0, none⟩) n n) ∧ w'.cell? ⟨B2, 1, none⟩ = some (.int .i64 0) ∧ w'.cell? ⟨B2, 2, none⟩ = some (.pointer none) ∧ w'.cell? ⟨B3, 0, none⟩ = some (.slice (some ⟨w.heap.size, 0, none⟩) n I) ∧ w'.cell? ⟨B3, 1, none⟩ = some (.int .i64 0)) (fun j => decide (11 < j)) (by kernel_rfl) ?_
            obtain ⟨wy17, hwx⟩ : ∃ x, x = w16.drew := ⟨_, rfl⟩
            have hRx := HR16.out.drew
            rw [← hwx] at hRx
            have lv : w16.drew.cell? _ = _ := lv
            rw [← hwx] at lv
            have v0 : w16.drew.cell? _ = _ := v0
            rw [← hwx] at v0
            have v1 : w16.drew.cell? _ = _ := v1
            rw [← hwx] at v1
            have v2 : w16.drew.cell? _ = _ := v2
            rw [← hwx] at v2
            have r0 : w16.drew.cell? _ = _ := r0
            rw [← hwx] at r0
            have r1 : w16.drew.cell? _ = _ := r1
            rw [← hwx] at r1
            have cV : Cells L16 wy17 B2 30 [.slice (some ⟨w.heap.size, 0, none⟩) n n, .int .i64 0, .pointer none] := by rw [hwx]; exact cV
            have cR : Cells L16 wy17 B3 33 [.slice (some ⟨w.heap.size, 0, none⟩) n I, .int .i64 0] := by rw [hwx]; exact cR
            rw [← hwx]
            have HRx := Lib.hid hRx
            clear hRx hwx
            refine Late.takeC (i := 0) (v := ?_) rfl (by kernel_rfl) (by kernel_rfl) (by kernel_rfl) (by kernel_rfl) (fun _ _ _ h => h) (Or.inl ⟨by rfl, ?_⟩) ⟨lv, v0, v1, v2, r0, r1⟩ ?_
            rotate_left
            · intro w' hS
              obtain ⟨s1, s2, s3, s4, s5, s6⟩ := hS
              go_simp
              rfl
            refine Late.takeC (i := 1) (v := ?_) rfl (by kernel_rfl) (by kernel_rfl) (by kernel_rfl) (by kernel_rfl) (fun _ _ _ h => h) (Or.inl ⟨by rfl, ?_⟩) ⟨lv, v0, v1, v2, r0, r1⟩ ?_
            rotate_left
            · intro w' hS
              obtain ⟨s1, s2, s3, s4, s5, s6⟩ := hS
              go_simp
              rfl
            refine Late.takeC (i := 2) (v := ?_) rfl (by kernel_rfl) (by kernel_rfl) (by kernel_rfl) (by kernel_rfl) (fun _ _ _ h => h) (Or.inl ⟨by rfl, ?_⟩) ⟨lv, v0, v1, v2, r0, r1⟩ ?_
            rotate_left
            · intro w' hS
              obtain ⟨s1, s2, s3, s4, s5, s6⟩ := hS
              go_simp
              rfl
            refine Late.takeC (i := 3) (v := ?_) rfl (by kernel_rfl) (by kernel_rfl) (by kernel_rfl) (by kernel_rfl) (fun _ _ _ h => h) (Or.inl ⟨by rfl, ?_⟩) ⟨lv, v0, v1, v2, r0, r1⟩ ?_
            rotate_left
            · intro w' hS
              obtain ⟨s1, s2, s3, s4, s5, s6⟩ := hS
              go_simp
              rfl
            refine Late.takeC (i := 4) (v := ?_) rfl (by kernel_rfl) (by kernel_rfl) (by kernel_rfl) (by kernel_rfl) (fun _ _ _ h => h) (Or.inl ⟨by rfl, ?_⟩) ⟨lv, v0, v1, v2, r0, r1⟩ ?_
            rotate_left
            · intro w' hS
              obtain ⟨s1, s2, s3, s4, s5, s6⟩ := hS
              go_simp
              rfl
            refine Late.takeC (i := 5) (v := ?_) rfl (by kernel_rfl) (by kernel_rfl) (by kernel_rfl) (by kernel_rfl) (fun _ _ _ h => h) (Or.inl ⟨by rfl, ?_⟩) ⟨lv, v0, v1, v2, r0, r1⟩ ?_
            rotate_left
            · intro w' hS
              obtain ⟨s1, s2, s3, s4, s5, s6⟩ := hS
              go_simp
              rfl
            refine Late.takeC (i := 6) (v := ?_) rfl (by kernel_rfl) (by kernel_rfl) (by kernel_rfl) (by kernel_rfl) (fun _ _ _ h => h) (Or.inl ⟨by rfl, ?_⟩) ⟨lv, v0, v1, v2, r0, r1⟩ ?_
            rotate_left
            · intro w' hS
              obtain ⟨s1, s2, s3, s4, s5, s6⟩ := hS
              go_simp
              rfl
            refine Late.takeC (i := 7) (v := ?_) rfl (by kernel_rfl) (by kernel_rfl) (by kernel_rfl) (by kernel_rfl) (fun _ _ _ h => h) (Or.inl ⟨by rfl, ?_⟩) ⟨lv, v0, v1, v2, r0, r1⟩ ?_
            rotate_left
            · intro w' hS
              obtain ⟨s1, s2, s3, s4, s5, s6⟩ := hS
              go_simp
              rfl
            have hmf : wy17.frozen? ⟨mb, 2, none⟩ = false := frozen_of_heap HRx.out.obj
            have hml2 := lt_of_heap HRx.out.obj
            have hownD : wy17.ownsRow 0 108 6 (.slice pv s16.l.length kv) s16.l.length (enCells s16.l) := by rw [← HV0.out]; exact HRx.out.list.1
            have hne_mb : some mb ≠ (Value.slice pv s16.l.length kv).ownBlock := by
              intro e; have := HRx.out.list.2 mb (by rw [HV0.out]; exact e.symm); rw [HRx.out.objc] at this; cases this
            have hne_cV := show some _ ≠ (Value.slice pv s16.l.length kv).ownBlock from fun e => by
              have h1 := HRx.out.list.2 _ (by rw [HV0.out]; exact e.symm); rw [cV.2.1] at h1; cases h1
            have hne_cR := show some _ ≠ (Value.slice pv s16.l.length kv).ownBlock from fun e => by
              have h1 := HRx.out.list.2 _ (by rw [HV0.out]; exact e.symm); rw [cR.2.1] at h1; cases h1
            have fz : ∀ o, (wy17.alloc o).frozen? ⟨mb, 2, none⟩ = false := fun o => by rw [World.frozen?_alloc_old _ _ _ (Nat.ne_of_lt hml2)]; exact hmf
            have fa : ∀ (bb oo : Nat) (u : Value) (o : Obj), wy17.cell? ⟨bb, oo, none⟩ = some u → (wy17.alloc o).cell? ⟨bb, oo, none⟩ = some u := fun bb oo u o hu => by rw [World.cell?_alloc_lt _ _ _ (World.block_lt_of_cell? _ _ hu)]; exact hu
            have HFA := Lib.hid fa
            clear fa
            refine Late.one (i := 8) (by kernel_rfl) rfl (fun K hK => ?_)
            go_simp
            refine hK _ _ (fun _ => ⟨HFA.out _ _ _ _ lv, HFA.out _ _ _ _ v0, HFA.out _ _ _ _ v1, HFA.out _ _ _ _ v2, HFA.out _ _ _ _ r0, HFA.out _ _ _ _ r1⟩) ?_
            clear hK K
            refine Late.one (i := 9) (by kernel_rfl) rfl (fun K hK => ?_)
            refine step_append_lies _ (by rfl) _ _ _ (by rfl) 0 108 i0 _ 6 80 Try.underlying93 hi hz0 hz1 hz2 rfl (by omega) (.slice pv s16.l.length kv) s16.l.length (enCells s16.l) (by rfl) (hownD.alloc _) ⟨wy17.heap.size, 0, none⟩ 1 1 [.slice (some ⟨w.heap.size, 0, none⟩) n n, .int .i64 0, .pointer none, .slice (some ⟨w.heap.size, 0, none⟩) n I, .int .i64 0, .int .i64 0] (by rfl) (by rfl) (World.news_of_block (cs := #[.slice (some ⟨w.heap.size, 0, none⟩) n n, .int .i64 0, .pointer none, .slice (some ⟨w.heap.size, 0, none⟩) n I, .int .i64 0, .int .i64 0]) (t := 108) (fr := (0, 0)) (heap_alloc_new wy17 _)) (by simp [Value.oneCell']) (by omega) (by unfold maxLen; omega) (by omega) (by omega) (wy17.heap.size + 1) (by simp) ?_
            intro gg17 cap17 wG17 hown1 hgrow hat hlt
            have far : ∀ {bb oo u}, wy17.cell? ⟨bb, oo, none⟩ = some u → some bb ≠ (Value.slice pv s16.l.length kv).ownBlock → wG17.cell? ⟨bb, oo, none⟩ = some u := fun hu hn =>
              (hgrow.cell_far _ (by have := World.block_lt_of_cell? _ _ hu; simp at this ⊢; omega) hn).trans (HFA.out _ _ _ _ hu)
            have ez : wG17.frozen? ⟨mb, 2, none⟩ = false := (hgrow.frozen_far _ (by simp; omega) hne_mb).trans (fz _)
            have lv := far lv hne_mb
            have v0 := far v0 hne_cV
            have v1 := far v1 hne_cV
            have v2 := far v2 hne_cV
            have r0 := far r0 hne_cR
            have r1 := far r1 hne_cR
            refine hK _ _ (fun _ => ⟨lv, v0, v1, v2, r0, r1⟩) ?_
            clear hK K far
            refine Late.one (i := 10) (by kernel_rfl) rfl (fun K hK => ?_)
            go_simp
            refine hK _ _ (fun _ => ⟨lv, v0, v1, v2, r0, r1⟩) ?_
            clear hK K
            refine Late.one (i := 11) (by kernel_rfl) rfl (fun K hK => ?_)
            go_simp
            refine hK _ _ (fun _ => ⟨lv, v0, v1, v2, r0, r1⟩) ?_
            clear hK K
            refine Late.one (i := 12) (by kernel_rfl) rfl (fun K hK => ?_)
            go_simp
            refine hK _ _ (fun h => by cases h) ?_
            clear hK K
            refine Late.done (by kernel_rfl) ?_ _
            obtain ⟨en17, hen⟩ : ∃ en : En, en = En.mk 0 n (.slice (some ⟨w.heap.size, 0, none⟩) n n) (.slice (some ⟨w.heap.size, 0, none⟩) n I) 0 none := ⟨_, rfl⟩
            have hown2 : wG17.ownsRow 0 108 6 (.slice (some ⟨gg17, 0, none⟩) (s16.l.length + 1) cap17) (s16.l ++ [en17]).length (enCells (s16.l ++ [en17])) := by
              rw [enCells_append, List.length_append, hen]; exact hown1
            obtain ⟨L17, stI, o1, o2⟩ := list_grown (j := 2) HRx.out.obj HRx.out.objc (c := 15) (by decide) HRx.out.list (below_alloc wy17 (Obj.cells #[.slice (some ⟨w.heap.size, 0, none⟩) n n, .int .i64 0, .pointer none, .slice (some ⟨w.heap.size, 0, none⟩) n I, .int .i64 0, .int .i64 0] 108)) hown2 (by rw [HV0.out]; exact hgrow) (by
              intro g hg
              have hg' : gg17 = g := by simpa [Value.ownBlock] using hg
              rw [← hg', HV0.out]
              rcases hat with h | h
              · exact .inl h
              · right; omega)
            have hRI := HRx.out.put_lv stI (fun d hd => hd) (by simpa [Rm.cells] using o1) o2
            obtain ⟨s17, hs17⟩ : ∃ x : Rm, x = { s16 with lv := .slice (some ⟨gg17, 0, none⟩) (s16.l.length + 1) cap17, l := s16.l ++ [en17] } := ⟨_, rfl⟩
            obtain ⟨w17, hw17⟩ : ∃ x, x = wG17.setCell ⟨mb, 2, none⟩ (.slice (some ⟨gg17, 0, none⟩) (s16.l.length + 1) cap17) := ⟨_, rfl⟩
            have cV : Cells L17 w17 B2 30 [.slice (some ⟨w.heap.size, 0, none⟩) n n, .int .i64 0, .pointer none] := by rw [hw17]; exact cV.step stI (by omega)
            have cR : Cells L17 w17 B3 33 [.slice (some ⟨w.heap.size, 0, none⟩) n I, .int .i64 0] := by rw [hw17]; exact cR.step stI (by omega)
            rw [← hw17, ← hs17] at hRI
            try rw [← hw17]
            have HL17 := Lib.hid (show s17.l = s16.l ++ [en17] from by rw [hs17])
            have HR17 := Lib.hid hRI
            have HS17 := Lib.hid hs17
            have HEN17 := Lib.hid hen
            clear hRI hs17 hw17 hen stI o1 o2 hown2 hown1 hgrow hat hlt hownD hmf hml2 fz hne_cV hne_cR hne_mb ez lv v0 v1 v2 r0 r1 hi hz0 hz1 hz2 hll HV0 HFA
            have HLB := Lib.hid (show s17.l = [en16, en17] from by rw [HL17.out, HLA.out]; rfl)
            obtain ⟨B4, hB4⟩ : ∃ B4, B4 = w17.heap.size := ⟨_, rfl⟩
            obtain ⟨w18, hw18⟩ : ∃ x, x = w17.alloc (Obj.cells #[.slice none 0 0, .int .i64 0, .pointer none] 51) := ⟨_, rfl⟩
            obtain ⟨L18, hR18, st18, cN⟩ : ∃ LB, Room w mb LB w18 s17 ∧ Step (fun _ => False) L17 w17 LB w18 ∧ Cells LB w18 B4 30 [.slice none 0 0, .int .i64 0, .pointer none] := by
              rw [hw18, hB4]; exact HR17.out.box [.slice none 0 0, .int .i64 0, .pointer none] 51
            have cV : Cells L18 w18 B2 30 [.slice (some ⟨w.heap.size, 0, none⟩) n n, .int .i64 0, .pointer none] := cV.step st18 (fun x => x)
            have HR18 := Lib.hid hR18
            have HW18 := Lib.hid hw18
            have HB4 := Lib.hid hB4
            clear hR18 st18 hw18 hB4 cR
            have u0 : w18.cell? ⟨B4, 0, none⟩ = some (.slice none 0 0) := cN.2.2 0 _ rfl
            have u1 : w18.cell? ⟨B4, 1, none⟩ = some (.int .i64 0) := cN.2.2 1 _ rfl
            have u2 : w18.cell? ⟨B4, 2, none⟩ = some (.pointer none) := cN.2.2 2 _ rfl
            go_upto_region 19 with fail
            rw [← HW18.out, ← HB4.out]
            obtain ⟨pv, kv, hv0, _⟩ := ownsRow_shape HR18.out.list.1
            have lv : w18.cell? ⟨mb, 2, none⟩ = some (.slice pv s17.l.length kv) := by rw [cell_of_heap HR18.out.obj, ← hv0]; rfl
            have hll : s17.l.length ≤ 3 := by rw [HLB.out]; simp
            have HV0 := Lib.hid hv0
            clear hv0
            obtain ⟨i0, hi, hz0, hz1, hz2⟩ := info_parts infoSeen
            refine Late.region (fun w' => w'.cell? ⟨mb, 2, none⟩ = some (.slice pv s17.l.length kv) ∧ w'.cell? ⟨B4, 0, none⟩ = some (.slice none 0 0) ∧ w'.cell? ⟨B4, 1, none⟩ = some (.int .i64 0) ∧ w'.cell? ⟨B4, 2, none⟩ = some (.pointer none)) (fun j => decide (10 < j)) (by kernel_rfl) ?_
            obtain ⟨wy19, hwx⟩ : ∃ x, x = w18.drew := ⟨_, rfl⟩
            have hRx := HR18.out.drew
            rw [← hwx] at hRx
            have lv : w18.drew.cell? _ = _ := lv
            rw [← hwx] at lv
            have u0 : w18.drew.cell? _ = _ := u0
            rw [← hwx] at u0
            have u1 : w18.drew.cell? _ = _ := u1
            rw [← hwx] at u1
            have u2 : w18.drew.cell? _ = _ := u2
            rw [← hwx] at u2
            have cV : Cells L18 wy19 B2 30 [.slice (some ⟨w.heap.size, 0, none⟩) n n, .int .i64 0, .pointer none] := by rw [hwx]; exact cV
            have cN : Cells L18 wy19 B4 30 [.slice none 0 0, .int .i64 0, .pointer none] := by rw [hwx]; exact cN
            rw [← hwx]
            have HRx := Lib.hid hRx
            clear hRx hwx
            refine Late.takeC (i := 0) (v := ?_) rfl (by kernel_rfl) (by kernel_rfl) (by kernel_rfl) (by kernel_rfl) (fun _ _ _ h => h) (Or.inl ⟨by rfl, ?_⟩) ⟨lv, u0, u1, u2⟩ ?_
            rotate_left
            · intro w' hS
              obtain ⟨s1, s2, s3, s4⟩ := hS
              go_simp
              rfl
            refine Late.takeC (i := 1) (v := ?_) rfl (by kernel_rfl) (by kernel_rfl) (by kernel_rfl) (by kernel_rfl) (fun _ _ _ h => h) (Or.inl ⟨by rfl, ?_⟩) ⟨lv, u0, u1, u2⟩ ?_
            rotate_left
            · intro w' hS
              obtain ⟨s1, s2, s3, s4⟩ := hS
              go_simp
              rfl
            refine Late.takeC (i := 2) (v := ?_) rfl (by kernel_rfl) (by kernel_rfl) (by kernel_rfl) (by kernel_rfl) (fun _ _ _ h => h) (Or.inl ⟨by rfl, ?_⟩) ⟨lv, u0, u1, u2⟩ ?_
            rotate_left
            · intro w' hS
              obtain ⟨s1, s2, s3, s4⟩ := hS
              go_simp
              rfl
            refine Late.takeC (i := 3) (v := ?_) rfl (by kernel_rfl) (by kernel_rfl) (by kernel_rfl) (by kernel_rfl) (fun _ _ _ h => h) (Or.inl ⟨by rfl, ?_⟩) ⟨lv, u0, u1, u2⟩ ?_
            rotate_left
            · intro w' hS
              obtain ⟨s1, s2, s3, s4⟩ := hS
              go_simp
              rfl
            refine Late.takeC (i := 4) (v := ?_) rfl (by kernel_rfl) (by kernel_rfl) (by kernel_rfl) (by kernel_rfl) (fun _ _ _ h => h) (Or.inl ⟨by rfl, ?_⟩) ⟨lv, u0, u1, u2⟩ ?_
            rotate_left
            · intro w' hS
              obtain ⟨s1, s2, s3, s4⟩ := hS
              go_simp
              rfl
            refine Late.takeC (i := 5) (v := ?_) rfl (by kernel_rfl) (by kernel_rfl) (by kernel_rfl) (by kernel_rfl) (fun _ _ _ h => h) (Or.inl ⟨by rfl, ?_⟩) ⟨lv, u0, u1, u2⟩ ?_
            rotate_left
            · intro w' hS
              obtain ⟨s1, s2, s3, s4⟩ := hS
              go_simp
              rfl
            refine Late.takeC (i := 6) (v := ?_) rfl (by kernel_rfl) (by kernel_rfl) (by kernel_rfl) (by kernel_rfl) (fun _ _ _ h => h) (Or.inl ⟨by rfl, ?_⟩) ⟨lv, u0, u1, u2⟩ ?_
            rotate_left
            · intro w' hS
              obtain ⟨s1, s2, s3, s4⟩ := hS
              go_simp
              rfl
            have hmf : wy19.frozen? ⟨mb, 2, none⟩ = false := frozen_of_heap HRx.out.obj
            have hml2 := lt_of_heap HRx.out.obj
            have hownD : wy19.ownsRow 0 108 6 (.slice pv s17.l.length kv) s17.l.length (enCells s17.l) := by rw [← HV0.out]; exact HRx.out.list.1
            have hne_mb : some mb ≠ (Value.slice pv s17.l.length kv).ownBlock := by
              intro e; have := HRx.out.list.2 mb (by rw [HV0.out]; exact e.symm); rw [HRx.out.objc] at this; cases this
            have hne_cV := show some _ ≠ (Value.slice pv s17.l.length kv).ownBlock from fun e => by
              have h1 := HRx.out.list.2 _ (by rw [HV0.out]; exact e.symm); rw [cV.2.1] at h1; cases h1
            have hne_cN := show some _ ≠ (Value.slice pv s17.l.length kv).ownBlock from fun e => by
              have h1 := HRx.out.list.2 _ (by rw [HV0.out]; exact e.symm); rw [cN.2.1] at h1; cases h1
            have fz : ∀ o, (wy19.alloc o).frozen? ⟨mb, 2, none⟩ = false := fun o => by rw [World.frozen?_alloc_old _ _ _ (Nat.ne_of_lt hml2)]; exact hmf
            have fa : ∀ (bb oo : Nat) (u : Value) (o : Obj), wy19.cell? ⟨bb, oo, none⟩ = some u → (wy19.alloc o).cell? ⟨bb, oo, none⟩ = some u := fun bb oo u o hu => by rw [World.cell?_alloc_lt _ _ _ (World.block_lt_of_cell? _ _ hu)]; exact hu
            have HFA := Lib.hid fa
            clear fa
            refine Late.one (i := 7) (by kernel_rfl) rfl (fun K hK => ?_)
            go_simp
            refine hK _ _ (fun _ => ⟨HFA.out _ _ _ _ lv, HFA.out _ _ _ _ u0, HFA.out _ _ _ _ u1, HFA.out _ _ _ _ u2⟩) ?_
            clear hK K
            refine Late.one (i := 8) (by kernel_rfl) rfl (fun K hK => ?_)
            refine step_append_lies _ (by rfl) _ _ _ (by rfl) 0 108 i0 _ 6 80 Try.underlying93 hi hz0 hz1 hz2 rfl (by omega) (.slice pv s17.l.length kv) s17.l.length (enCells s17.l) (by rfl) (hownD.alloc _) ⟨wy19.heap.size, 0, none⟩ 1 1 [.slice none 0 0, .int .i64 0, .pointer none, .slice none 0 0, .int .i64 0, .int .i64 0] (by rfl) (by rfl) (World.news_of_block (cs := #[.slice none 0 0, .int .i64 0, .pointer none, .slice none 0 0, .int .i64 0, .int .i64 0]) (t := 108) (fr := (0, 0)) (heap_alloc_new wy19 _)) (by simp [Value.oneCell']) (by omega) (by unfold maxLen; omega) (by omega) (by omega) (wy19.heap.size + 1) (by simp) ?_
            intro gg19 cap19 wG19 hown1 hgrow hat hlt
            have far : ∀ {bb oo u}, wy19.cell? ⟨bb, oo, none⟩ = some u → some bb ≠ (Value.slice pv s17.l.length kv).ownBlock → wG19.cell? ⟨bb, oo, none⟩ = some u := fun hu hn =>
              (hgrow.cell_far _ (by have := World.block_lt_of_cell? _ _ hu; simp at this ⊢; omega) hn).trans (HFA.out _ _ _ _ hu)
            have ez : wG19.frozen? ⟨mb, 2, none⟩ = false := (hgrow.frozen_far _ (by simp; omega) hne_mb).trans (fz _)
            have lv := far lv hne_mb
            have u0 := far u0 hne_cN
            have u1 := far u1 hne_cN
            have u2 := far u2 hne_cN
            refine hK _ _ (fun _ => ⟨lv, u0, u1, u2⟩) ?_
            clear hK K far
            refine Late.one (i := 9) (by kernel_rfl) rfl (fun K hK => ?_)
            go_simp
            refine hK _ _ (fun _ => ⟨lv, u0, u1, u2⟩) ?_
            clear hK K
            refine Late.one (i := 10) (by kernel_rfl) rfl (fun K hK => ?_)
            go_simp
            refine hK _ _ (fun _ => ⟨lv, u0, u1, u2⟩) ?_
            clear hK K
            refine Late.one (i := 11) (by kernel_rfl) rfl (fun K hK => ?_)
            go_simp
            refine hK _ _ (fun h => by cases h) ?_
            clear hK K
            refine Late.done (by kernel_rfl) ?_ _
            obtain ⟨en19, hen⟩ : ∃ en : En, en = En.mk 0 0 (.slice none 0 0) (.slice none 0 0) 0 none := ⟨_, rfl⟩
            have hown2 : wG19.ownsRow 0 108 6 (.slice (some ⟨gg19, 0, none⟩) (s17.l.length + 1) cap19) (s17.l ++ [en19]).length (enCells (s17.l ++ [en19])) := by
              rw [enCells_append, List.length_append, hen]; exact hown1
            obtain ⟨L19, stI, o1, o2⟩ := list_grown (j := 2) HRx.out.obj HRx.out.objc (c := 15) (by decide) HRx.out.list (below_alloc wy19 (Obj.cells #[.slice none 0 0, .int .i64 0, .pointer none, .slice none 0 0, .int .i64 0, .int .i64 0] 108)) hown2 (by rw [HV0.out]; exact hgrow) (by
              intro g hg
              have hg' : gg19 = g := by simpa [Value.ownBlock] using hg
              rw [← hg', HV0.out]
              rcases hat with h | h
              · exact .inl h
              · right; omega)
            have hRI := HRx.out.put_lv stI (fun d hd => hd) (by simpa [Rm.cells] using o1) o2
            obtain ⟨s19, hs19⟩ : ∃ x : Rm, x = { s17 with lv := .slice (some ⟨gg19, 0, none⟩) (s17.l.length + 1) cap19, l := s17.l ++ [en19] } := ⟨_, rfl⟩
            obtain ⟨w19, hw19⟩ : ∃ x, x = wG19.setCell ⟨mb, 2, none⟩ (.slice (some ⟨gg19, 0, none⟩) (s17.l.length + 1) cap19) := ⟨_, rfl⟩
            have cV : Cells L19 w19 B2 30 [.slice (some ⟨w.heap.size, 0, none⟩) n n, .int .i64 0, .pointer none] := by rw [hw19]; exact cV.step stI (by omega)
            have cN : Cells L19 w19 B4 30 [.slice none 0 0, .int .i64 0, .pointer none] := by rw [hw19]; exact cN.step stI (by omega)
            rw [← hw19, ← hs19] at hRI
            try rw [← hw19]
            have HL19 := Lib.hid (show s19.l = s17.l ++ [en19] from by rw [hs19])
            have HR19 := Lib.hid hRI
            have HS19 := Lib.hid hs19
            have HEN19 := Lib.hid hen
            clear hRI hs19 hw19 hen stI o1 o2 hown2 hown1 hgrow hat hlt hownD hmf hml2 fz hne_cV hne_cN hne_mb ez lv u0 u1 u2 hi hz0 hz1 hz2 hll HV0 HFA
            have v0 : w19.cell? ⟨B2, 0, none⟩ = some (.slice (some ⟨w.heap.size, 0, none⟩) n n) := cV.2.2 0 _ rfl
            have v1 : w19.cell? ⟨B2, 1, none⟩ = some (.int .i64 0) := cV.2.2 1 _ rfl
            have v2 : w19.cell? ⟨B2, 2, none⟩ = some (.pointer none) := cV.2.2 2 _ rfl
            have hN19 : s19.N = n := by rw [HS19.out, HS17.out, HS16.out]; exact HSV.out.2.1
            have x1 : w19.cell? ⟨mb, 1, none⟩ = some (.int .i64 (n : Int)) := by have h1 := HR19.out.c0.2.1; rw [hN19] at h1; exact h1
            clear hN19
            go_upto_region 20 with fail
            refine Late.region (fun w' => w'.cell? ⟨B2, 0, none⟩ = some (.slice (some ⟨w.heap.size, 0, none⟩) n n) ∧ w'.cell? ⟨B2, 1, none⟩ = some (.int .i64 0) ∧ w'.cell? ⟨B2, 2, none⟩ = some (.pointer none) ∧ w'.cell? ⟨mb, 1, none⟩ = some (.int .i64 (n : Int))) (fun _ => false) (by kernel_rfl) ?_
            refine Late.takeC (i := 0) (v := ?_) rfl (by kernel_rfl) (by kernel_rfl) (by kernel_rfl) (by kernel_rfl) (fun _ _ _ h => h) (Or.inl ⟨by rfl, ?_⟩) ⟨v0, v1, v2, x1⟩ ?_
            rotate_left
            · intro w' hS
              obtain ⟨s1, s2, s3, s4⟩ := hS
              go_simp
              rfl
            refine Late.takeC (i := 1) (v := ?_) rfl (by kernel_rfl) (by kernel_rfl) (by kernel_rfl) (by kernel_rfl) (fun _ _ _ h => h) (Or.inl ⟨by rfl, ?_⟩) ⟨v0, v1, v2, x1⟩ ?_
            rotate_left
            · intro w' hS
              obtain ⟨s1, s2, s3, s4⟩ := hS
              go_simp
              rfl
            refine Late.takeC (i := 2) (v := ?_) rfl (by kernel_rfl) (by kernel_rfl) (by kernel_rfl) (by kernel_rfl) (fun _ _ _ h => h) (Or.inl ⟨by rfl, ?_⟩) ⟨v0, v1, v2, x1⟩ ?_
            rotate_left
            · intro w' hS
              obtain ⟨s1, s2, s3, s4⟩ := hS
              go_simp
              rfl
            refine Late.takeC (i := 3) (v := ?_) rfl (by kernel_rfl) (by kernel_rfl) (by kernel_rfl) (by kernel_rfl) (fun _ _ _ h => h) (Or.inl ⟨by rfl, ?_⟩) ⟨v0, v1, v2, x1⟩ ?_
            rotate_left
            · intro w' hS
              obtain ⟨s1, s2, s3, s4⟩ := hS
              go_simp
              rfl
            refine Late.takeC (i := 4) (v := ?_) rfl (by kernel_rfl) (by kernel_rfl) (by kernel_rfl) (by kernel_rfl) (fun _ _ _ h => h) (Or.inl ⟨by go_simp, ?_⟩) ⟨v0, v1, v2, x1⟩ ?_
            rotate_left
            · intro w' hS
              obtain ⟨s1, s2, s3, s4⟩ := hS
              go_simp
              rfl
            refine Late.takeC (i := 5) (v := ?_) rfl (by kernel_rfl) (by kernel_rfl) (by kernel_rfl) (by kernel_rfl) (fun _ _ _ h => h) (Or.inl ⟨by go_simp, ?_⟩) ⟨v0, v1, v2, x1⟩ ?_
            rotate_left
            · intro w' hS
              obtain ⟨s1, s2, s3, s4⟩ := hS
              go_simp
              rfl
            refine Late.takeC (i := 6) (v := ?_) rfl (by kernel_rfl) (by kernel_rfl) (by kernel_rfl) (by kernel_rfl) (fun _ _ _ h => h) (Or.inl ⟨by rfl, ?_⟩) ⟨v0, v1, v2, x1⟩ ?_
            rotate_left
            · intro w' hS
              obtain ⟨s1, s2, s3, s4⟩ := hS
              go_simp
              rfl
            refine Late.takeC (i := 7) (v := ?_) rfl (by kernel_rfl) (by kernel_rfl) (by kernel_rfl) (by kernel_rfl) (fun _ _ _ h => h) (Or.inl ⟨by rfl, ?_⟩) ⟨v0, v1, v2, x1⟩ ?_
            rotate_left
            · intro w' hS
              obtain ⟨s1, s2, s3, s4⟩ := hS
              go_simp
              rfl
            refine Late.takeC (i := 8) (v := ?_) rfl (by kernel_rfl) (by kernel_rfl) (by kernel_rfl) (by kernel_rfl) (fun _ _ _ h => h) (Or.inl ⟨by go_simp, ?_⟩) ⟨v0, v1, v2, x1⟩ ?_
            rotate_left
            · intro w' hS
              obtain ⟨s1, s2, s3, s4⟩ := hS
              go_simp
              rfl
            refine Late.takeC (i := 10) (v := ?_) rfl (by kernel_rfl) (by kernel_rfl) (by kernel_rfl) (by kernel_rfl) (fun _ _ _ h => h) (Or.inl ⟨by go_simp, ?_⟩) ⟨v0, v1, v2, x1⟩ ?_
            rotate_left
            · intro w' hS
              obtain ⟨s1, s2, s3, s4⟩ := hS
              go_simp
              rfl
            refine Late.takeC (i := 11) (v := ?_) rfl (by kernel_rfl) (by kernel_rfl) (by kernel_rfl) (by kernel_rfl) (fun _ _ _ h => h) (Or.inl ⟨by go_simp, ?_⟩) ⟨v0, v1, v2, x1⟩ ?_
            rotate_left
            · intro w' hS
              obtain ⟨s1, s2, s3, s4⟩ := hS
              go_simp
              rfl
            refine Late.takeC (i := 12) (v := ?_) rfl (by kernel_rfl) (by kernel_rfl) (by kernel_rfl) (by kernel_rfl) (fun _ _ _ h => h) (Or.inl ⟨by go_simp, ?_⟩) ⟨v0, v1, v2, x1⟩ ?_
            rotate_left
            · intro w' hS
              obtain ⟨s1, s2, s3, s4⟩ := hS
              go_simp
              rfl
            refine Late.takeC (i := 13) (v := ?_) rfl (by kernel_rfl) (by kernel_rfl) (by kernel_rfl) (by kernel_rfl) (fun _ _ _ h => h) (Or.inl ⟨by go_simp, ?_⟩) ⟨v0, v1, v2, x1⟩ ?_
            rotate_left
            · intro w' hS
              obtain ⟨s1, s2, s3, s4⟩ := hS
              go_simp
              rfl
            refine Late.one (i := 9) (by kernel_rfl) rfl (fun K hK => ?_)
            go_simp
            refine (len_calls (some ⟨w.heap.size, 0, none⟩) n n _ _).mono ?_; rintro r w20 ⟨rfl, b20⟩
            have b20 : Below w19.heap.size w19 w20 := ⟨b20.os, b20.tape, b20.output, b20.size, b20.block⟩
            have v0 := (b20.cell (World.block_lt_of_cell? _ _ v0)).trans v0
            have v1 := (b20.cell (World.block_lt_of_cell? _ _ v1)).trans v1
            have v2 := (b20.cell (World.block_lt_of_cell? _ _ v2)).trans v2
            have x1 := (b20.cell (World.block_lt_of_cell? _ _ x1)).trans x1
            have HR20 := Lib.hid (HR19.out.below b20)
            clear b20
            refine hK _ _ (fun _ => ⟨v0, v1, v2, x1⟩) ?_
            clear hK K
            refine Late.takeC (i := 14) (v := ?_) rfl (by kernel_rfl) (by kernel_rfl) (by kernel_rfl) (by kernel_rfl) (fun _ _ _ h => h) (Or.inl ⟨by go_simp, ?_⟩) ⟨v0, v1, v2, x1⟩ ?_
            rotate_left
            · intro w' hS
              obtain ⟨s1, s2, s3, s4⟩ := hS
              go_simp
              rfl
            refine Late.takeC (i := 15) (v := ?_) rfl (by kernel_rfl) (by kernel_rfl) (by kernel_rfl) (by kernel_rfl) (fun _ _ _ h => h) (Or.inl ⟨by rfl, ?_⟩) ⟨v0, v1, v2, x1⟩ ?_
            rotate_left
            · intro w' hS
              obtain ⟨s1, s2, s3, s4⟩ := hS
              go_simp
              rfl
            refine Late.one (i := 16) (by kernel_rfl) rfl (fun K hK => ?_)
            go_simp
            refine hK _ _ (fun _ => ⟨v0, v1, v2, x1⟩) ?_
            clear hK K
            refine Late.one (i := 17) (by kernel_rfl) rfl (fun K hK => ?_)
            go_simp
            refine hK _ _ (fun _ => ⟨v0, v1, v2, x1⟩) ?_
            clear hK K
            refine Late.done (by kernel_rfl) ?_ _
            have hpost : Good w.heap.size wb1 wb2 s19 ∧ Bound s19 3 := by
              have g0 := HS19.out
              have g1 := HL19.out
              rw [HLB.out] at g1
              have hI := HI.out
              have e1 : s19.all = ds := by rw [g0, HS17.out, HS16.out, HS13.out, HS12.out, HS8.out, HS7.out, HS0.out]
              have e2 : s19.N = n := by rw [g0, HS17.out, HS16.out, HS13.out, HS12.out, HS8.out, HS7.out, HS0.out]
              have e3 : s19.av = .slice (some ⟨w.heap.size, 0, none⟩) I I := by rw [g0, HS17.out, HS16.out, HS13.out, HS12.out, HS8.out, HS7.out, HS0.out]
              have e4 : s19.p1 = some wb1 ∧ s19.p2 = some wb2 ∧ s19.u1 = [] ∧ s19.t1 = [] ∧ s19.u2 = [((0 : Int), (1 : Int))] ∧ s19.t2 = [((0 : Int), (1 : Int))] ∧ s19.rl = [] ∧ s19.ol = [] ∧ s19.n0 = [] ∧ s19.n1 = [] ∧ s19.n2 = [] ∧ s19.n3 = [] := by
                rw [g0, HS17.out, HS16.out, HS13.out, HS12.out, HS8.out, HS7.out, HS0.out]
                exact ⟨rfl, rfl, rfl, rfl, rfl, rfl, rfl, rfl, rfl, rfl, rfl, rfl⟩
              obtain ⟨f1, f2, f3, f4, f5, f6, f7, f8, f9, f10, f11, f12⟩ := e4
              refine ⟨⟨?_, ?_, ?_, ?_, f1, f2, ?_, ?_, ?_, ?_, ?_, ?_, ?_⟩, ⟨?_, ?_, ?_, ?_, ?_, ?_, ?_, ?_, ?_, ?_, ?_⟩⟩
              · rw [e1, e2, HDLX.out, hI]
              · rw [e1, e2]; exact HMARKS.out
              · rw [e3, e2, hI]
              · rw [e2]; exact hn
              · intro e he
                rw [g1] at he
                simp only [List.mem_append, List.mem_cons, List.not_mem_nil, or_false] at he
                rw [e2]
                rcases he with (rfl | rfl) | rfl
                · rw [HEN16.out]; exact ⟨by simp, ⟨_, _, rfl, by first | omega | (simp only; omega) | simp, by first | omega | (simp only; omega) | simp, fun _ => rfl⟩, ⟨_, _, rfl, by first | omega | (simp only; omega) | simp, by first | omega | (simp only; omega) | simp, fun _ => rfl⟩, by simp, rfl⟩
                · rw [HEN17.out]; exact ⟨by simp, ⟨_, _, rfl, by first | omega | (simp only; omega) | simp, by first | omega | (simp only; omega) | simp, fun _ => rfl⟩, ⟨_, _, rfl, by first | omega | (simp only; omega) | simp, by first | omega | (simp only; omega) | simp, fun _ => rfl⟩, by simp, rfl⟩
                · rw [HEN19.out]; exact ⟨by simp, ⟨_, _, rfl, by first | omega | (simp only; omega) | simp, by first | omega | (simp only; omega) | simp, fun h => absurd h (by simp)⟩, ⟨_, _, rfl, by first | omega | (simp only; omega) | simp, by first | omega | (simp only; omega) | simp, fun h => absurd h (by simp)⟩, by simp, rfl⟩
              · rw [g1]; simp
              · rw [g1]; simp
              · rw [f3, f4]
              · rw [f5, f6]
              · rw [f7, f8]; rfl
              · intro i hi; rw [f8] at hi; cases hi
              · rw [f4]; simp
              · rw [f6]; simp
              · rw [f7]; simp
              · rw [f9]; simp
              · rw [f10]; simp
              · rw [f11]; simp
              · rw [f12]; simp
              · rw [f9]; intro x hx; cases hx
              · rw [f10]; intro x hx; cases hx
              · rw [f11]; intro x hx; cases hx
              · rw [f12]; intro x hx; cases hx
            have HPOST := Lib.hid hpost
            clear hpost v0 v1 v2 x1
            go_wp2_with fail
            go_ret2
            exact ⟨mb, w.heap.size, wb1, wb2, _, s19, rfl, HR20.out, HPOST.out.1, HPOST.out.2⟩

end Go.Proofs.Ytajaonnpekdklaa.Vr
