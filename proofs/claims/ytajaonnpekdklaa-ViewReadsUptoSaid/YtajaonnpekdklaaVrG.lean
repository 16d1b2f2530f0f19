import Derived.Test.YtajaonnpekdklaaVrF
set_option linter.unusedVariables false
set_option maxRecDepth 100000
/-! room.loads (printed by wip/tools/vrg.py). -/
namespace Go.Proofs.Ytajaonnpekdklaa.Vr
open Go.ChangeShapes Go.WideShapes Go.ChangeAt Go.RowKit Mem Vw

theorem loadE_zero {n : Nat} {a m : Int} (h : loadE n a m = 0) : ∃ x y : Nat, a = x ∧ m = y ∧ x + y ≤ n := by
  unfold loadE at h
  by_cases hw : Ink.wideB m = true
  · rw [if_pos hw] at h
    by_cases hi : insideB a m n = true
    · obtain ⟨x, y, rfl, rfl, hxy⟩ := insideB_true hi
      exact ⟨x, y, rfl, rfl, hxy⟩
    · rw [if_neg hi] at h; cases h
  · rw [if_neg hw] at h; cases h

def opVal (k o a b : Int) : Value := .agg #[.int .i64 k, .int .i64 o, .int .i64 a, .int .i64 b]

theorem loads3 {w0 : World} {mb gb w1 w2 : Nat} {L : Nat → Nat} {w : World} {s : Rm} {K : Nat} (h : Room w0 mb L w s) (g : Good gb w1 w2 s) (b : Bound s K) (hK : K ≤ 1000000000) (e : En) (he : Ent gb s.N w1 w2 e)
    (on a m : Int) (ha : a ≤ 9223372036854775807) :
    Calls Try.prog 56 #[.pointer (some ⟨mb, 0, none⟩), enVal e, opVal 3 on a m] w fun r w' => r = .returned (.bool true) ∧ Stepped w0 mb gb w1 w2 K w' := by
  obtain ⟨q, cap, hqv, hq1, hq2, hv⟩ := h.view g he
  obtain ⟨q2, cap2, hqr, hr1, hr2, hr⟩ := h.ref g he
  have hf := he.fits
  have hsm := g.small
  have hwo := h.wopt g he
  have hbt := b.t e.who
  have hgl : (got s.all e.a e.n).length = e.n := got_len (by have := g.len; omega)
  obtain ⟨wB, hwB⟩ : ∃ wB, wB = (w.alloc (Obj.cells (enCell e).toArray 108)).alloc (Obj.cells #[.int .i64 3, .int .i64 on, .int .i64 a, .int .i64 m] 72) := ⟨_, rfl⟩
  obtain ⟨LB, hRB, stB, cB1, cB2⟩ : ∃ LB, Room w0 mb LB wB s ∧ Step (fun _ => False) L w LB wB ∧ Cells LB wB w.heap.size 30 (enCell e) ∧ Cells LB wB (w.heap.size + 1) 30 [.int .i64 3, .int .i64 on, .int .i64 a, .int .i64 m] := by
    rw [hwB]; exact h.box2 (enCell e) [.int .i64 3, .int .i64 on, .int .i64 a, .int .i64 m] 108 72
  have hvB := hv.step stB (fun x => x)
  have hrB := hr.step stB (fun x => x)
  have hwoB := hwo.step stB (fun x => x)
  have hev := g.even e.who
  clear hv hr hwo stB
  obtain ⟨ea, en, ev, er, ew, ep⟩ := e
  simp only at *
  subst hqv hqr
  have HW := Lib.hid hwB
  clear hwB
  have hRBh := Lib.hid hRB
  clear hRB
  generalize hbs : got s.all ea en = bs at *
  have HEV := Lib.hid hev
  clear hev hbs
  by_cases hE : loadE bs.length a m = 0
  · obtain ⟨x, y, rfl, rfl, hxy⟩ := loadE_zero hE
    have hT : loadT (s.u ew) bs.length (ea : Int) x y = tell (s.u ew) ea x y := by rw [loadT, if_pos hE]; rfl
    have HE := Lib.hid hE
    have HT := Lib.hid hT
    have HGL := Lib.hid hgl
    clear hE hT hgl
    simp only [enVal, opVal, enCell] at HW ⊢
    go_enter Try.func56, Try.ntmps56
    go_wp2_with fail
    rw [← HW.out]
    refine (load_calls (wc_ne ew) hwoB (by rw [HEV.out]; omega) hvB ea (by omega) (by omega) x y (by omega)).mono ?_; rintro r wC ⟨rfl, hrd⟩
    rw [HT.out] at hrd
    obtain ⟨LC, stC, hRC⟩ := hRBh.out.told g he hrd
    have cC1 := cB1.step (stC.mono (fun _ => wc_rc)) (by unfold Rc; omega)
    have cC2 := cB2.step (stC.mono (fun _ => wc_rc)) (by unfold Rc; omega)
    have c0 : wC.cell? ⟨w.heap.size, 0, none⟩ = some (.slice q en cap) := cC1.2.2 0 _ rfl
    have c1 : wC.cell? ⟨w.heap.size, 1, none⟩ = some (.int .i64 (ea : Int)) := cC1.2.2 1 _ rfl
    have c2 : wC.cell? ⟨w.heap.size, 2, none⟩ = some (wat ep) := cC1.2.2 2 _ rfl
    have c3 : wC.cell? ⟨w.heap.size, 3, none⟩ = some (.slice q2 en cap2) := cC1.2.2 3 _ rfl
    have c4 : wC.cell? ⟨w.heap.size, 4, none⟩ = some (.int .i64 (ea : Int)) := cC1.2.2 4 _ rfl
    have c5 : wC.cell? ⟨w.heap.size, 5, none⟩ = some (.int .i64 (ew : Int)) := cC1.2.2 5 _ rfl
    have d2 : wC.cell? ⟨w.heap.size + 1, 2, none⟩ = some (.int .i64 (x : Int)) := cC2.2.2 2 _ rfl
    have d3 : wC.cell? ⟨w.heap.size + 1, 3, none⟩ = some (.int .i64 (y : Int)) := cC2.2.2 3 _ rfl
    have hrC := hrB.step stC (wc_ne ew)
    have HRC := Lib.hid hRC
    clear hRC hrd stC hvB hrB hwoB cB1 cB2
    rw [HE.out]
    go_wp2_with fail
    refine (rload_calls hrC ea x y (by omega)).mono ?_; rintro r wD ⟨rfl, bD⟩
    rw [HE.out]
    have stD := Step.of_below (L := LC) bD (fun _ => False) 30
    have hRD := HRC.out.below bD
    have cD1 := cC1.step stD (fun x => x)
    have cD2 := cC2.step stD (fun x => x)
    generalize ext LC wC.heap.size 30 = LD at *
    have c0 : wD.cell? ⟨w.heap.size, 0, none⟩ = some (.slice q en cap) := cD1.2.2 0 _ rfl
    have c1 : wD.cell? ⟨w.heap.size, 1, none⟩ = some (.int .i64 (ea : Int)) := cD1.2.2 1 _ rfl
    have c2 : wD.cell? ⟨w.heap.size, 2, none⟩ = some (wat ep) := cD1.2.2 2 _ rfl
    have c3 : wD.cell? ⟨w.heap.size, 3, none⟩ = some (.slice q2 en cap2) := cD1.2.2 3 _ rfl
    have c4 : wD.cell? ⟨w.heap.size, 4, none⟩ = some (.int .i64 (ea : Int)) := cD1.2.2 4 _ rfl
    have c5 : wD.cell? ⟨w.heap.size, 5, none⟩ = some (.int .i64 (ew : Int)) := cD1.2.2 5 _ rfl
    have d2 : wD.cell? ⟨w.heap.size + 1, 2, none⟩ = some (.int .i64 (x : Int)) := cD2.2.2 2 _ rfl
    have d3 : wD.cell? ⟨w.heap.size + 1, 3, none⟩ = some (.int .i64 (y : Int)) := cD2.2.2 3 _ rfl
    have HRD := Lib.hid hRD
    clear hRD stD bD hrC cC1 cC2 cD1 cD2
    go_wp2_with fail
    refine (room_told h g b hK he x y (by have := HGL.out; simp only at this ⊢; omega) HRD.out).mono ?_; rintro r wE ⟨rfl, LE, sE, stE, hRE, gE, bE, hN⟩
    have HS := Lib.hid (show Stepped w0 mb gb w1 w2 K wE from ⟨LE, sE, hRE, gE, bE.mono (by omega)⟩)
    clear hRE gE bE stE
    go_wp2_with fail
    go_ret
    exact ⟨rfl, HS.out⟩
  · have hT : loadT (s.u ew) bs.length (ea : Int) a m = s.u ew := by rw [loadT, if_neg hE]
    have hE2 : (loadE bs.length a m == 0) = false := by simpa using hE
    have hT2 : s.setU ew (loadT (s.u ew) bs.length (ea : Int) a m) = s := by rw [hT]; exact setU_same
    have hEE : (loadE bs.length a m == loadE bs.length a m) = true := by simp
    have hVV : ((loadV bs a m : Int) == loadV bs a m) = true := by simp
    have HT := Lib.hid hT2
    clear hE hT hT2 hgl
    simp only [enVal, opVal, enCell] at HW ⊢
    go_enter Try.func56, Try.ntmps56
    go_wp2_with fail
    rw [← HW.out]
    refine (load_calls (wc_ne ew) hwoB (by rw [HEV.out]; omega) hvB ea (by omega) (by omega) a m ha).mono ?_; rintro r wC ⟨rfl, hrd⟩
    obtain ⟨LC, stC, hRC⟩ := hRBh.out.told g he hrd
    rw [HT.out] at hRC
    have cC1 := cB1.step (stC.mono (fun _ => wc_rc)) (by unfold Rc; omega)
    have cC2 := cB2.step (stC.mono (fun _ => wc_rc)) (by unfold Rc; omega)
    have c3 : wC.cell? ⟨w.heap.size, 3, none⟩ = some (.slice q2 en cap2) := cC1.2.2 3 _ rfl
    have c4 : wC.cell? ⟨w.heap.size, 4, none⟩ = some (.int .i64 (ea : Int)) := cC1.2.2 4 _ rfl
    have d2 : wC.cell? ⟨w.heap.size + 1, 2, none⟩ = some (.int .i64 a) := cC2.2.2 2 _ rfl
    have d3 : wC.cell? ⟨w.heap.size + 1, 3, none⟩ = some (.int .i64 m) := cC2.2.2 3 _ rfl
    have hrC := hrB.step stC (wc_ne ew)
    have HRC := Lib.hid hRC
    clear hRC hrd stC hvB hrB hwoB cB1 cB2
    go_wp2_with fail
    refine (rload_calls hrC ea a m ha).mono ?_; rintro r wD ⟨rfl, bD⟩
    have HS := Lib.hid (show Stepped w0 mb gb w1 w2 K wD from ⟨_, s, HRC.out.below bD, g, b.mono (by omega)⟩)
    clear bD hrC cC1 cC2
    go_wp2_with fail
    go_ret
    exact ⟨rfl, HS.out⟩

theorem loads4 {w0 : World} {mb gb w1 w2 : Nat} {L : Nat → Nat} {w : World} {s : Rm} {K : Nat} (h : Room w0 mb L w s) (g : Good gb w1 w2 s) (b : Bound s K) (hK : K ≤ 1000000000) (e : En) (he : Ent gb s.N w1 w2 e)
    (kd on a m : Int) (hkd : (kd == 3) = false) (ha : a ≤ 9223372036854775807) :
    Calls Try.prog 56 #[.pointer (some ⟨mb, 0, none⟩), enVal e, opVal kd on a m] w fun r w' => r = .returned (.bool true) ∧ Stepped w0 mb gb w1 w2 K w' := by
  obtain ⟨q, cap, hqv, hq1, hq2, hv⟩ := h.view g he
  obtain ⟨q2, cap2, hqr, hr1, hr2, hr⟩ := h.ref g he
  have hf := he.fits
  have hsm := g.small
  have hwo := h.wopt g he
  have hbt := b.t e.who
  have hgl : (got s.all e.a e.n).length = e.n := got_len (by have := g.len; omega)
  obtain ⟨wB, hwB⟩ : ∃ wB, wB = (w.alloc (Obj.cells (enCell e).toArray 108)).alloc (Obj.cells #[.int .i64 kd, .int .i64 on, .int .i64 a, .int .i64 m] 72) := ⟨_, rfl⟩
  obtain ⟨LB, hRB, stB, cB1, cB2⟩ : ∃ LB, Room w0 mb LB wB s ∧ Step (fun _ => False) L w LB wB ∧ Cells LB wB w.heap.size 30 (enCell e) ∧ Cells LB wB (w.heap.size + 1) 30 [.int .i64 kd, .int .i64 on, .int .i64 a, .int .i64 m] := by
    rw [hwB]; exact h.box2 (enCell e) [.int .i64 kd, .int .i64 on, .int .i64 a, .int .i64 m] 108 72
  have hvB := hv.step stB (fun x => x)
  have hrB := hr.step stB (fun x => x)
  have hwoB := hwo.step stB (fun x => x)
  have hev := g.even e.who
  clear hv hr hwo stB
  obtain ⟨ea, en, ev, er, ew, ep⟩ := e
  simp only at *
  subst hqv hqr
  have HW := Lib.hid hwB
  clear hwB
  have hRBh := Lib.hid hRB
  clear hRB
  generalize hbs : got s.all ea en = bs at *
  have HEV := Lib.hid hev
  clear hev hbs
  by_cases hE : loadE bs.length a m = 0
  · obtain ⟨x, y, rfl, rfl, hxy⟩ := loadE_zero hE
    have hT : loadT (s.u ew) bs.length (ea : Int) x y = tell (s.u ew) ea x y := by rw [loadT, if_pos hE]; rfl
    have HE := Lib.hid hE
    have HT := Lib.hid hT
    have HGL := Lib.hid hgl
    clear hE hT hgl
    simp only [enVal, opVal, enCell] at HW ⊢
    go_enter Try.func56, Try.ntmps56
    go_wp2_with fail
    rw [← HW.out]
    refine (signed_calls (wc_ne ew) hwoB (by rw [HEV.out]; omega) hvB ea (by omega) (by omega) x y (by omega)).mono ?_; rintro r wC ⟨rfl, hrd⟩
    rw [HT.out] at hrd
    obtain ⟨LC, stC, hRC⟩ := hRBh.out.told g he hrd
    have cC1 := cB1.step (stC.mono (fun _ => wc_rc)) (by unfold Rc; omega)
    have cC2 := cB2.step (stC.mono (fun _ => wc_rc)) (by unfold Rc; omega)
    have c0 : wC.cell? ⟨w.heap.size, 0, none⟩ = some (.slice q en cap) := cC1.2.2 0 _ rfl
    have c1 : wC.cell? ⟨w.heap.size, 1, none⟩ = some (.int .i64 (ea : Int)) := cC1.2.2 1 _ rfl
    have c2 : wC.cell? ⟨w.heap.size, 2, none⟩ = some (wat ep) := cC1.2.2 2 _ rfl
    have c3 : wC.cell? ⟨w.heap.size, 3, none⟩ = some (.slice q2 en cap2) := cC1.2.2 3 _ rfl
    have c4 : wC.cell? ⟨w.heap.size, 4, none⟩ = some (.int .i64 (ea : Int)) := cC1.2.2 4 _ rfl
    have c5 : wC.cell? ⟨w.heap.size, 5, none⟩ = some (.int .i64 (ew : Int)) := cC1.2.2 5 _ rfl
    have d2 : wC.cell? ⟨w.heap.size + 1, 2, none⟩ = some (.int .i64 (x : Int)) := cC2.2.2 2 _ rfl
    have d3 : wC.cell? ⟨w.heap.size + 1, 3, none⟩ = some (.int .i64 (y : Int)) := cC2.2.2 3 _ rfl
    have hrC := hrB.step stC (wc_ne ew)
    have HRC := Lib.hid hRC
    clear hRC hrd stC hvB hrB hwoB cB1 cB2
    rw [HE.out]
    go_wp2_with fail
    refine (rsigned_calls hrC ea x y (by omega)).mono ?_; rintro r wD ⟨rfl, bD⟩
    rw [HE.out]
    have stD := Step.of_below (L := LC) bD (fun _ => False) 30
    have hRD := HRC.out.below bD
    have cD1 := cC1.step stD (fun x => x)
    have cD2 := cC2.step stD (fun x => x)
    generalize ext LC wC.heap.size 30 = LD at *
    have c0 : wD.cell? ⟨w.heap.size, 0, none⟩ = some (.slice q en cap) := cD1.2.2 0 _ rfl
    have c1 : wD.cell? ⟨w.heap.size, 1, none⟩ = some (.int .i64 (ea : Int)) := cD1.2.2 1 _ rfl
    have c2 : wD.cell? ⟨w.heap.size, 2, none⟩ = some (wat ep) := cD1.2.2 2 _ rfl
    have c3 : wD.cell? ⟨w.heap.size, 3, none⟩ = some (.slice q2 en cap2) := cD1.2.2 3 _ rfl
    have c4 : wD.cell? ⟨w.heap.size, 4, none⟩ = some (.int .i64 (ea : Int)) := cD1.2.2 4 _ rfl
    have c5 : wD.cell? ⟨w.heap.size, 5, none⟩ = some (.int .i64 (ew : Int)) := cD1.2.2 5 _ rfl
    have d2 : wD.cell? ⟨w.heap.size + 1, 2, none⟩ = some (.int .i64 (x : Int)) := cD2.2.2 2 _ rfl
    have d3 : wD.cell? ⟨w.heap.size + 1, 3, none⟩ = some (.int .i64 (y : Int)) := cD2.2.2 3 _ rfl
    have HRD := Lib.hid hRD
    clear hRD stD bD hrC cC1 cC2 cD1 cD2
    go_wp2_with fail
    refine (room_told h g b hK he x y (by have := HGL.out; simp only at this ⊢; omega) HRD.out).mono ?_; rintro r wE ⟨rfl, LE, sE, stE, hRE, gE, bE, hN⟩
    have HS := Lib.hid (show Stepped w0 mb gb w1 w2 K wE from ⟨LE, sE, hRE, gE, bE.mono (by omega)⟩)
    clear hRE gE bE stE
    go_wp2_with fail
    go_ret
    exact ⟨rfl, HS.out⟩
  · have hT : loadT (s.u ew) bs.length (ea : Int) a m = s.u ew := by rw [loadT, if_neg hE]
    have hE2 : (loadE bs.length a m == 0) = false := by simpa using hE
    have hT2 : s.setU ew (loadT (s.u ew) bs.length (ea : Int) a m) = s := by rw [hT]; exact setU_same
    have hEE : (loadE bs.length a m == loadE bs.length a m) = true := by simp
    have hVV : ((signedV bs a m : Int) == signedV bs a m) = true := by simp
    have HT := Lib.hid hT2
    clear hE hT hT2 hgl
    simp only [enVal, opVal, enCell] at HW ⊢
    go_enter Try.func56, Try.ntmps56
    go_wp2_with fail
    rw [← HW.out]
    refine (signed_calls (wc_ne ew) hwoB (by rw [HEV.out]; omega) hvB ea (by omega) (by omega) a m ha).mono ?_; rintro r wC ⟨rfl, hrd⟩
    obtain ⟨LC, stC, hRC⟩ := hRBh.out.told g he hrd
    rw [HT.out] at hRC
    have cC1 := cB1.step (stC.mono (fun _ => wc_rc)) (by unfold Rc; omega)
    have cC2 := cB2.step (stC.mono (fun _ => wc_rc)) (by unfold Rc; omega)
    have c3 : wC.cell? ⟨w.heap.size, 3, none⟩ = some (.slice q2 en cap2) := cC1.2.2 3 _ rfl
    have c4 : wC.cell? ⟨w.heap.size, 4, none⟩ = some (.int .i64 (ea : Int)) := cC1.2.2 4 _ rfl
    have d2 : wC.cell? ⟨w.heap.size + 1, 2, none⟩ = some (.int .i64 a) := cC2.2.2 2 _ rfl
    have d3 : wC.cell? ⟨w.heap.size + 1, 3, none⟩ = some (.int .i64 m) := cC2.2.2 3 _ rfl
    have hrC := hrB.step stC (wc_ne ew)
    have HRC := Lib.hid hRC
    clear hRC hrd stC hvB hrB hwoB cB1 cB2
    go_wp2_with fail
    refine (rsigned_calls hrC ea a m ha).mono ?_; rintro r wD ⟨rfl, bD⟩
    have HS := Lib.hid (show Stepped w0 mb gb w1 w2 K wD from ⟨_, s, HRC.out.below bD, g, b.mono (by omega)⟩)
    clear bD hrC cC1 cC2
    go_wp2_with fail
    go_ret
    exact ⟨rfl, HS.out⟩

end Go.Proofs.Ytajaonnpekdklaa.Vr
