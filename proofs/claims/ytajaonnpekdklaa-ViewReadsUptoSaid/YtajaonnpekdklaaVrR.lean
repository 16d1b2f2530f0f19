import Derived.Test.YtajaonnpekdklaaVrF
set_option linter.unusedVariables false
set_option maxRecDepth 100000
/-! room.watches. -/
namespace Go.Proofs.Ytajaonnpekdklaa.Vr
open Go.ChangeShapes Go.WideShapes Go.ChangeAt Go.RowKit Mem Vw

def Rm.tv (s : Rm) (t : Nat) : Value := if t = 1 then s.t1v else s.t2v
def wbOf (w1 w2 t : Nat) : Nat := if t = 1 then w1 else w2

theorem Room.watchT {w0 : World} {mb gb w1 w2 : Nat} {L : Nat → Nat} {w : World} {s : Rm} (h : Room w0 mb L w s) (g : Good gb w1 w2 s) (t : Nat) (h1 : 1 ≤ t) (h2 : t < 3) :
    w.cell? ⟨mb, 3 + t, none⟩ = some (.pointer (some ⟨wbOf w1 w2 t, 0, none⟩)) ∧ w.cell? ⟨mb, 6 + t, none⟩ = some (s.tv t) ∧ WatchAt L (wc t) w (wbOf w1 w2 t) (s.t t) ∧ Own L (6 + t) w 62 2 (s.tv t) (s.t t).length (rdCells (s.t t)) := by
  have : t = 1 ∨ t = 2 := by omega
  rcases this with rfl | rfl
  · refine ⟨?_, ?_, ?_, h.told1⟩
    · rw [cell_of_heap h.obj]; simp [Rm.cells, g.p1, wat, wbOf]
    · rw [cell_of_heap h.obj]; rfl
    · have := h.watch1 w1 g.p1; rw [g.e1] at this; exact this
  · refine ⟨?_, ?_, ?_, h.told2⟩
    · rw [cell_of_heap h.obj]; simp [Rm.cells, g.p2, wat, wbOf]
    · rw [cell_of_heap h.obj]; rfl
    · have := h.watch2 w2 g.p2; rw [g.e2] at this; exact this

theorem rdCells_set (ds : List (Int × Int)) : ∀ (j : Nat) (a b : Int), ((rdCells ds).set (j * 2) (.int .i64 a)).set (j * 2 + 1) (.int .i64 b) = rdCells (ds.set j (a, b)) := by
  induction ds with
  | nil => intro j a b; simp [rdCells]
  | cons x r ih =>
    intro j a b
    have e : ∀ y : Int × Int, ∀ z, rdCells (y :: z) = .int .i64 y.1 :: .int .i64 y.2 :: rdCells z := fun _ _ => rfl
    cases j with
    | zero => rfl
    | succ j =>
      rw [e, List.set_cons_succ, e, show (j + 1) * 2 = j * 2 + 1 + 1 by omega]
      simp only [List.set_cons_succ]
      rw [ih]

theorem rdCells_len (ds : List (Int × Int)) : (rdCells ds).length = ds.length * 2 := by
  induction ds with
  | nil => rfl
  | cons x r ih => have e : rdCells (x :: r) = .int .i64 x.1 :: .int .i64 x.2 :: rdCells r := rfl; rw [e]; simp [ih]; omega

theorem len_posR {L : Nat → Nat} {c e n size : Nat} {w : World} {v : Value} {xs : List Value} (h : Own L c w e size v n xs) : ∃ p cap, v = .slice p n cap ∧ n ≤ maxLen := by
  obtain ⟨p, cap, hv, h1, h2, _⟩ := ownsRow_shape h.1
  exact ⟨p, cap, hv, Nat.le_trans h1 h2⟩

theorem markR_step {ds : List (Int × Int)} {j : Nat} {m : Int × Int} (hj : j < ds.length) (h : ds.take j = List.replicate j m) : (ds.set j m).take (j + 1) = List.replicate (j + 1) m := by
  rw [List.take_succ_eq_append_getElem (by simpa using hj), List.take_set_of_le (Nat.le_refl _), h]
  simp [List.replicate_succ']

set_option maxHeartbeats 4000000 in
theorem watches_calls {w0 : World} {mb gb w1 w2 : Nat} {L : Nat → Nat} {w : World} {s : Rm} {K : Nat} (hR : Room w0 mb L w s) (g : Good gb w1 w2 s) (b : Bound s K) (hK : K ≤ 1000000002) :
    Calls Try.prog 36 #[.pointer (some ⟨mb, 0, none⟩)] w fun r w' => r = .returned (.bool true) ∧ ∃ L', Room w0 mb L' w' s := by
  go_enter Try.func36, Try.ntmps36
  go_wp2_with fail
  go_loopw [3, 4, 5, 6, 7, 8, 9, 10, 11, 12] (fun i _ _ _ _ _ _ _ _ _ wr => ∃ (t : Nat) (L' : Nat → Nat), 1 ≤ t ∧ t ≤ 3 ∧ i = .int .i64 (t : Int) ∧ Room w0 mb L' wr s) (fun i _ _ _ _ _ _ _ _ _ _ => 3 - (intOf i).toNat)
  case atStart => exact ⟨1, L, by omega, by omega, rfl, hR⟩
  case round =>
    obtain ⟨t, L1, ht1, ht3, rfl, hR1⟩ := hrel
    by_cases hlt : t < 3
    · obtain ⟨cw, ct, wa, ot⟩ := hR1.watchT g t ht1 hlt
      have hbig : (s.t t).length ≤ 1000000002 := by have := b.t t; omega
      obtain ⟨p0, cap0, htv, hc1, hc2, _⟩ := ownsRow_shape ot.1
      obtain ⟨l, hl⟩ : ∃ l, l = s.t t := ⟨_, rfl⟩
      rw [htv] at ct ot
      rw [← hl] at ct ot wa hbig htv hc1
      have hsame : sameR l l = true := by simp [sameR]
      obtain ⟨wb, hwb⟩ : ∃ wb, wb = wbOf w1 w2 t := ⟨_, rfl⟩
      rw [← hwb] at cw wa
      have HL := Lib.hid hl
      have HTV := Lib.hid htv
      have HWB := Lib.hid hwb
      have HR1 := Lib.hid hR1
      clear hl htv hwb hR1 hR
      go_wp2_with fail
      refine (Vw.reads_calls L1 (wc t) 31 _ wa (by omega)).mono ?_; rintro e wA ⟨v1, rfl, st1, ow1⟩
      have hRA := HR1.out.move st1 (fun _ x => x.elim)
      obtain ⟨cw, ct, wa, ot⟩ := hRA.watchT g t ht1 hlt
      rw [← HL.out, HTV.out] at ot
      rw [HTV.out] at ct
      rw [← HL.out, ← HWB.out] at wa
      rw [← HWB.out] at cw
      clear st1
      generalize ext L1 wr.heap.size 31 = LA at *
      have HRA := Lib.hid hRA
      clear hRA
      go_wp2_with fail
      refine (sameReads_calls ow1.rd ot.rd).mono ?_; rintro e wB ⟨rfl, n3, hw3⟩
      rw [hsame]
      obtain ⟨hRB, owB⟩ : Room w0 mb LA wB s ∧ Own LA 31 wB 62 2 v1 l.length (rdCells l) := by
        rw [hw3]; exact ⟨HRA.out.drewN _, ow1⟩
      clear hw3 ow1 ot wa ct cw
      obtain ⟨p1, cap1, hv1, hm1⟩ := len_posR owB
      subst hv1
      unfold maxLen at hm1
      go_wp2_with fail
      go_loopw [6] (fun i wr => ∃ (j : Nat) (L' : Nat → Nat) (ds : List (Int × Int)), j ≤ l.length ∧ i = .int .i64 (j : Int) ∧ Room w0 mb L' wr s ∧ Own L' 31 wr 62 2 (.slice p1 l.length cap1) l.length (rdCells ds) ∧ ds.length = l.length ∧ ds.take j = List.replicate j ((-9), (-9))) (fun i _ => l.length - (intOf i).toNat)
      case atStart => exact ⟨0, _, l, by omega, rfl, hRB, owB, rfl, rfl⟩
      case round =>
        obtain ⟨j, LX, ds, hj, rfl, hRX, owX, hdl, hdt⟩ := hrel
        have HDL := Lib.hid hdl
        have HDT := Lib.hid hdt
        have HRX := Lib.hid hRX
        clear hdl hdt hRX
        by_cases hjl : j < l.length
        · have hcl : (rdCells ds).length = l.length * 2 := by rw [rdCells_len, HDL.out]
          obtain ⟨g1, cp1, hv1, hLg1, d0, d1, owA, stA⟩ := Own.set owX (j := j * 2) (by omega) (.int .i64 (-9))
          cases hv1
          obtain ⟨g2, cp2, hv2, hLg2, e0, e1, owB, stB⟩ := Own.set owA (j := j * 2 + 1) (by rw [List.length_set]; omega) (.int .i64 (-9))
          cases hv2
          have HF := Lib.hid (And.intro ((HRX.out.move stA (fun d hd => by rw [show d = 31 from hd]; omega)).move stB (fun d hd => by rw [show d = 31 from hd]; omega)) (show Own LX 31 _ 62 2 _ _ (rdCells (ds.set j ((-9), (-9)))) from by rw [← rdCells_set]; exact owB))
          have HCL := Lib.hid hcl
          obtain ⟨q1, dd0⟩ : ∃ q1, wr.cell? ⟨g1, j * 2, none⟩ = some q1 := ⟨_, d0⟩
          obtain ⟨q2, ee0⟩ : ∃ q2, (wr.setCell ⟨g1, j * 2, none⟩ (.int .i64 (-9))).cell? ⟨g1, j * 2 + 1, none⟩ = some q2 := ⟨_, e0⟩
          clear d0 e0 hcl owA owB owX stA stB
          go_wp2_with fail
          go_roundw
          case rel =>
            refine ⟨j + 1, LX, ds.set j ((-9), (-9)), by omega, by go_num, HF.out.1, HF.out.2, by rw [List.length_set]; exact HDL.out, markR_step (by rw [HDL.out]; exact hjl) HDT.out⟩
          case measure => simp [intOf]; omega
        · have hds : ds = List.replicate l.length ((-9), (-9)) := by
            have h1 := HDT.out
            obtain rfl : j = l.length := by omega
            rwa [List.take_of_length_le (by rw [HDL.out]; exact Nat.le_refl _)] at h1
          subst hds
          go_wp2_with fail
          go_loopw [4, 7] (fun v i wr => ∃ (j : Nat) (L' : Nat → Nat), j ≤ 5 ∧ i = .int .i64 (j : Int) ∧ Room w0 mb L' wr s ∧ Own L' 31 wr 62 2 v (l.length + j) (rdCells (List.replicate (l.length + j) ((-9), (-9))))) (fun _ i _ => 5 - (intOf i).toNat)
          case atStart => exact ⟨0, _, by omega, rfl, HRX.out, owX⟩
          case round =>
            obtain ⟨j, LX, hj, rfl, hRX, owX⟩ := hrel
            obtain ⟨p3, cap3, hv3, hm3⟩ := len_posR owX
            subst hv3
            have HRX := Lib.hid hRX
            clear hRX
            by_cases hjl : j < 5
            · go_wp2_with (at_builtin; refine wpList_append rfl (.tmp 48) (.tmp 50) 57 57 rfl 62 Try.underlying57 infoRead rfl (by decide) _ (l.length + j) (rdCells (List.replicate (l.length + j) ((-9), (-9)))) rfl (owX.1.alloc _) _ 1 [.int .i64 (-9), .int .i64 (-9)] rfl (Src.fresh _ Try.underlying57 1 1 [.int .i64 (-9), .int .i64 (-9)] rfl (by simp [Value.oneCell'])) (by unfold maxLen; omega) (by omega) ?_)
              intro v4 w4 hown4 hg4 hblk _
              obtain ⟨L4, s4, ow4, st4⟩ := Own.grown (Step.refl (· = 31) LX _) rfl owX (below_alloc _ _) hown4 hg4 (by simpa using hblk)
              have hR4 := HRX.out.move st4 (fun d hd => by rw [show d = 31 from hd]; omega)
              have e5 : rdCells (List.replicate (l.length + (j + 1)) (((-9) : Int), ((-9) : Int))) = rdCells (List.replicate (l.length + j) ((-9), (-9))) ++ [.int .i64 (-9), .int .i64 (-9)] := by
                rw [← Nat.add_assoc, List.replicate_succ']; simp [rdCells]
              have HF := Lib.hid (And.intro hR4 (show Own L4 31 w4 62 2 v4 (l.length + (j + 1)) (rdCells (List.replicate (l.length + (j + 1)) (((-9) : Int), ((-9) : Int)))) from by rw [e5]; exact ow4))
              clear e5 hR4 ow4 st4 s4 hown4 hg4 hblk owX
              go_wp2_with fail
              go_roundw
              case rel => exact ⟨j + 1, L4, by omega, by go_num, HF.out.1, HF.out.2⟩
              case measure => simp [intOf]; omega
            · obtain rfl : j = 5 := by omega
              obtain ⟨cw, ct, wa, ot⟩ := HRX.out.watchT g t ht1 hlt
              rw [← HL.out, HTV.out] at ot
              rw [HTV.out] at ct
              rw [← HL.out, ← HWB.out] at wa
              rw [← HWB.out] at cw
              have Hw := Lib.hid (And.intro wa ot)
              clear wa ot
              go_wp2_with fail
              refine (Vw.reads_calls LX (wc t) 32 _ Hw.out.1 (by omega)).mono ?_; rintro e wC ⟨v1, rfl, st1, ow1⟩
              have hRC := HRX.out.move st1 (fun _ x => x.elim)
              have owX := owX.step st1 (fun x => x)
              clear st1 cw ct
              generalize ext LX _ 32 = LC at *
              obtain ⟨cw, ct, wa, ot⟩ := hRC.watchT g t ht1 hlt
              rw [← HL.out, HTV.out] at ot
              rw [HTV.out] at ct
              have HRC := Lib.hid hRC
              clear hRC wa cw
              go_wp2_with fail
              refine (sameReads_calls ow1.rd ot.rd).mono ?_; rintro e wD ⟨rfl, n4, hw4⟩
              rw [hsame]
              obtain ⟨hRD, owD, owX⟩ : Room w0 mb LC wD s ∧ Own LC 32 wD 62 2 v1 l.length (rdCells l) ∧ Own LC 31 wD 62 2 (.slice p3 (l.length + 5) cap3) (l.length + 5) (rdCells (List.replicate (l.length + 5) ((-9), (-9)))) := by
                rw [hw4]; exact ⟨HRC.out.drewN _, ow1, owX⟩
              clear hw4 ow1 ot ct
              obtain ⟨p4, cap4, hv4, hm4⟩ := len_posR owD
              subst hv4
              unfold maxLen at hm4
              have hrep : ∀ (n : Nat) (m : Int), List.replicate n (m, m) = List.replicate (List.replicate n (m, m)).length (m, m) := fun n m => by simp
              have hlr : ∀ (n : Nat) (m : Int), (List.replicate n (m, m)).length = n := fun n m => by simp
              have HREP := Lib.hid hrep
              have HLR := Lib.hid hlr
              clear hrep hlr
              go_wp2_with fail
              refine (marked_calls (l := List.replicate (l.length + 5) ((-9), (-9))) (-9) (by rw [HLR.out]; exact owX.rd) (HREP.out _ _)).mono ?_; rintro e w' ⟨rfl, rfl⟩
              go_wp2_with fail
              have owK := owX
              clear owX
              go_loopw [10] (fun i wr => ∃ (j : Nat) (L' : Nat → Nat) (ds : List (Int × Int)), j ≤ l.length ∧ i = .int .i64 (j : Int) ∧ Room w0 mb L' wr s ∧ Own L' 32 wr 62 2 (.slice p4 l.length cap4) l.length (rdCells ds) ∧ ds.length = l.length ∧ ds.take j = List.replicate j ((-8), (-8)) ∧ Own L' 31 wr 62 2 (.slice p3 (l.length + 5) cap3) (l.length + 5) (rdCells (List.replicate (l.length + 5) ((-9), (-9))))) (fun i _ => l.length - (intOf i).toNat)
              case atStart => exact ⟨0, _, l, by omega, rfl, hRD, owD, rfl, rfl, owK⟩
              case round =>
                obtain ⟨j, LX, ds, hj, rfl, hRX, owX, hdl, hdt, owK⟩ := hrel
                have HDL := Lib.hid hdl
                have HDT := Lib.hid hdt
                have HRX := Lib.hid hRX
                clear hdl hdt hRX
                by_cases hjl : j < l.length
                · have hcl : (rdCells ds).length = l.length * 2 := by rw [rdCells_len, HDL.out]
                  obtain ⟨g1, cp1, hv1, hLg1, d0, d1, owA, stA⟩ := Own.set owX (j := j * 2) (by omega) (.int .i64 (-8))
                  cases hv1
                  obtain ⟨g2, cp2, hv2, hLg2, e0, e1, owB, stB⟩ := Own.set owA (j := j * 2 + 1) (by rw [List.length_set]; omega) (.int .i64 (-8))
                  cases hv2
                  have HF := Lib.hid (And.intro ((HRX.out.move stA (fun d hd => by rw [show d = 32 from hd]; omega)).move stB (fun d hd => by rw [show d = 32 from hd]; omega)) (show Own LX 32 _ 62 2 _ _ (rdCells (ds.set j ((-8), (-8)))) from by rw [← rdCells_set]; exact owB))
                  have owKb := (owK.step stA (by omega)).step stB (by omega)
                  have HCL := Lib.hid hcl
                  obtain ⟨q1, dd0⟩ : ∃ q1, wr.cell? ⟨g1, j * 2, none⟩ = some q1 := ⟨_, d0⟩
                  obtain ⟨q2, ee0⟩ : ∃ q2, (wr.setCell ⟨g1, j * 2, none⟩ (.int .i64 (-8))).cell? ⟨g1, j * 2 + 1, none⟩ = some q2 := ⟨_, e0⟩
                  clear d0 e0 hcl owA owB owX stA stB
                  go_wp2_with fail
                  go_roundw
                  case rel =>
                    refine ⟨j + 1, LX, ds.set j ((-8), (-8)), by omega, by go_num, HF.out.1, HF.out.2, by rw [List.length_set]; exact HDL.out, markR_step (by rw [HDL.out]; exact hjl) HDT.out, owKb⟩
                  case measure => simp [intOf]; omega
                · have hds : ds = List.replicate l.length ((-8), (-8)) := by
                    have h1 := HDT.out
                    obtain rfl : j = l.length := by omega
                    rwa [List.take_of_length_le (by rw [HDL.out]; exact Nat.le_refl _)] at h1
                  subst hds
                  go_wp2_with fail
                  go_loopw [8, 11] (fun v i wr => ∃ (j : Nat) (L' : Nat → Nat), j ≤ 5 ∧ i = .int .i64 (j : Int) ∧ Room w0 mb L' wr s ∧ Own L' 32 wr 62 2 v (l.length + j) (rdCells (List.replicate (l.length + j) ((-8), (-8)))) ∧ Own L' 31 wr 62 2 (.slice p3 (l.length + 5) cap3) (l.length + 5) (rdCells (List.replicate (l.length + 5) ((-9), (-9))))) (fun _ i _ => 5 - (intOf i).toNat)
                  case atStart => exact ⟨0, _, by omega, rfl, HRX.out, owX, owK⟩
                  case round =>
                    obtain ⟨j, LX, hj, rfl, hRX, owX, owK⟩ := hrel
                    obtain ⟨p5, cap5, hv3, hm3⟩ := len_posR owX
                    subst hv3
                    have HRX := Lib.hid hRX
                    clear hRX
                    by_cases hjl : j < 5
                    · go_wp2_with (at_builtin; refine wpList_append rfl (.tmp 89) (.tmp 91) 57 57 rfl 62 Try.underlying57 infoRead rfl (by decide) _ (l.length + j) (rdCells (List.replicate (l.length + j) ((-8), (-8)))) rfl (owX.1.alloc _) _ 1 [.int .i64 (-8), .int .i64 (-8)] rfl (Src.fresh _ Try.underlying57 1 1 [.int .i64 (-8), .int .i64 (-8)] rfl (by simp [Value.oneCell'])) (by unfold maxLen; omega) (by omega) ?_)
                      intro v4 w4 hown4 hg4 hblk _
                      obtain ⟨L4, s4, ow4, st4⟩ := Own.grown (Step.refl (· = 32) LX _) rfl owX (below_alloc _ _) hown4 hg4 (by simpa using hblk)
                      have hR4 := HRX.out.move st4 (fun d hd => by rw [show d = 32 from hd]; omega)
                      have e5 : rdCells (List.replicate (l.length + (j + 1)) (((-8) : Int), ((-8) : Int))) = rdCells (List.replicate (l.length + j) ((-8), (-8))) ++ [.int .i64 (-8), .int .i64 (-8)] := by
                        rw [← Nat.add_assoc, List.replicate_succ']; simp [rdCells]
                      have owKb := owK.step st4 (by omega)
                      have HF := Lib.hid (And.intro hR4 (show Own L4 32 w4 62 2 v4 (l.length + (j + 1)) (rdCells (List.replicate (l.length + (j + 1)) (((-8) : Int), ((-8) : Int)))) from by rw [e5]; exact ow4))
                      clear e5 hR4 ow4 st4 s4 hown4 hg4 hblk owX
                      go_wp2_with fail
                      go_roundw
                      case rel => exact ⟨j + 1, L4, by omega, by go_num, HF.out.1, HF.out.2, owKb⟩
                      case measure => simp [intOf]; omega
                    · obtain rfl : j = 5 := by omega
                      obtain ⟨cw, ct, wa, ot⟩ := HRX.out.watchT g t ht1 hlt
                      rw [← HL.out, HTV.out] at ot
                      rw [HTV.out] at ct
                      rw [← HL.out, ← HWB.out] at wa
                      rw [← HWB.out] at cw
                      have Hw := Lib.hid (And.intro wa ot)
                      clear wa ot
                      go_wp2_with fail
                      refine (Vw.reads_calls LX (wc t) 33 _ Hw.out.1 (by omega)).mono ?_; rintro e wE ⟨v1, rfl, st1, ow1⟩
                      have hRC := HRX.out.move st1 (fun _ x => x.elim)
                      have owX := owX.step st1 (fun x => x)
                      have owK := owK.step st1 (fun x => x)
                      clear st1 cw ct
                      generalize ext LX _ 33 = LE at *
                      obtain ⟨cw, ct, wa, ot⟩ := hRC.watchT g t ht1 hlt
                      rw [← HL.out, HTV.out] at ot
                      rw [HTV.out] at ct
                      have HRC := Lib.hid hRC
                      clear hRC wa cw
                      go_wp2_with fail
                      refine (sameReads_calls ow1.rd ot.rd).mono ?_; rintro e wF ⟨rfl, n5, hw5⟩
                      rw [hsame]
                      obtain ⟨hRF, owX, owK⟩ : Room w0 mb LE wF s ∧ Own LE 32 wF 62 2 (.slice p5 (l.length + 5) cap5) (l.length + 5) (rdCells (List.replicate (l.length + 5) ((-8), (-8)))) ∧ Own LE 31 wF 62 2 (.slice p3 (l.length + 5) cap3) (l.length + 5) (rdCells (List.replicate (l.length + 5) ((-9), (-9)))) := by
                        rw [hw5]; exact ⟨HRC.out.drewN _, owX, owK⟩
                      have HRF := Lib.hid hRF
                      clear hw5 ow1 ot ct hRF
                      go_wp2_with fail
                      refine (marked_calls (l := List.replicate (l.length + 5) ((-9), (-9))) (-9) (by rw [HLR.out]; exact owK.rd) (HREP.out _ _)).mono ?_; rintro e w' ⟨rfl, rfl⟩
                      go_wp2_with fail
                      refine (marked_calls (l := List.replicate (l.length + 5) ((-8), (-8))) (-8) (by rw [HLR.out]; exact owX.rd) (HREP.out _ _)).mono ?_; rintro e w' ⟨rfl, rfl⟩
                      go_wp2_with fail
                      go_roundw
                      case rel => exact ⟨t + 1, LE, by omega, by omega, by go_num, HRF.out⟩
                      case measure => simp [intOf]; omega
    · have HF := Lib.hid hR1
      clear hR1
      go_wp2_with fail
      go_ret
      exact ⟨rfl, L1, HF.out⟩
end Go.Proofs.Ytajaonnpekdklaa.Vr
