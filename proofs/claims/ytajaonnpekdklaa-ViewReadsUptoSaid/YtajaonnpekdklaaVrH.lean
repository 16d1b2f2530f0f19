import Derived.Test.YtajaonnpekdklaaVrG
set_option linter.unusedVariables false
set_option maxRecDepth 100000
/-! room.part (printed by wip/tools/vrh.py). -/
namespace Go.Proofs.Ytajaonnpekdklaa.Vr
open Go.ChangeShapes Go.WideShapes Go.ChangeAt Go.RowKit Mem Vw

theorem infoSeen : (Try.prog.info? 108).map (fun i => (i.zero, i.size, i.bytes)) = some (some (.agg #[.slice none 0 0, .int .i64 0, .pointer none, .slice none 0 0, .int .i64 0, .int .i64 0]), 6, 80) := by kernel_rfl

theorem Room.drew {w0 : World} {mb : Nat} {L : Nat → Nat} {w : World} {s : Rm} (h : Room w0 mb L w s) : Room w0 mb L w.drew s :=
  h.move (C := fun _ => False) ((Step.refl _ _ _).drew) (fun _ x => x.elim)

theorem enCells_length (l : List En) : (enCells l).length = l.length * 6 := by
  induction l with
  | nil => rfl
  | cons a l ih => simp [enCells, enCell] at ih ⊢; omega
theorem enCells_append (l : List En) (e : En) : enCells (l ++ [e]) = enCells l ++ enCell e := by simp [enCells]

theorem At.cut {gb a n x y cap : Nat} {q : Option Addr} (h : At gb a n (.slice q n cap)) (hxy : x + y ≤ n) : At gb (a + x) y (.slice (cutAt q x y) y y) := by
  obtain ⟨p, c, hv, hn, hc, hp⟩ := h
  cases hv
  refine ⟨_, _, rfl, Nat.le_refl _, by omega, fun hy => ?_⟩
  rw [cutAt, if_neg (by omega), hp (by omega)]
  simp [add_lit]
theorem At.rcut {gb a n x y cap : Nat} {q : Option Addr} (h : At gb a n (.slice q n cap)) (hxy : x + y ≤ n) : At gb (a + x) y (.slice (rcut q x (cap - x)) y (cap - x)) := by
  obtain ⟨p, c, hv, hn, hc, hp⟩ := h
  cases hv
  refine ⟨_, _, rfl, by omega, by omega, fun hy => ?_⟩
  rw [Vw.rcut, if_neg (by omega), hp (by omega)]
  simp [add_lit]

theorem add_good {gb w1 w2 : Nat} {s : Rm} (g : Good gb w1 w2 s) (v : Value) {e : En} (he : Ent gb s.N w1 w2 e) (hl : s.l.length < 40) : Good gb w1 w2 { s with lv := v, l := s.l ++ [e] } :=
  ⟨g.len, g.marks, g.av, g.small, g.p1, g.p2, fun x hx => by
    rcases List.mem_append.1 hx with h | h
    · exact g.ents x h
    · rw [List.mem_singleton.1 h]; exact he, by simp, by simp; omega, g.e1, g.e2, g.rlen, g.raws⟩
theorem add_bound {s : Rm} {K : Nat} (b : Bound s K) (v : Value) (l : List En) : Bound { s with lv := v, l := l } K :=
  ⟨b.t1, b.t2, b.rl, b.n0, b.n1, b.n2, b.n3, b.m0, b.m1, b.m2, b.m3⟩

theorem part_no {w0 : World} {mb gb w1 w2 : Nat} {L : Nat → Nat} {w : World} {s : Rm} {K : Nat} (h : Room w0 mb L w s) (g : Good gb w1 w2 s) (b : Bound s K) (e : En) (he : Ent gb s.N w1 w2 e)
    (kd on a m : Int) (ha : a ≤ 9223372036854775807) (hi : insideB a m e.n = false) :
    Calls Try.prog 53 #[.pointer (some ⟨mb, 0, none⟩), enVal e, opVal kd on a m] w fun r w' => r = .returned (.bool true) ∧ Stepped w0 mb gb w1 w2 K w' := by
  obtain ⟨q, cap, hqv, hq1, hq2, hv⟩ := h.view g he
  obtain ⟨q2, cap2, hqr, hr1, hr2, hr⟩ := h.ref g he
  have hf := he.fits
  have hsm := g.small
  obtain ⟨wB, hwB⟩ : ∃ wB, wB = (w.alloc (Obj.cells (enCell e).toArray 108)).alloc (Obj.cells #[.int .i64 kd, .int .i64 on, .int .i64 a, .int .i64 m] 72) := ⟨_, rfl⟩
  obtain ⟨LB, hRB, stB, cB1, cB2⟩ : ∃ LB, Room w0 mb LB wB s ∧ Step (fun _ => False) L w LB wB ∧ Cells LB wB w.heap.size 30 (enCell e) ∧ Cells LB wB (w.heap.size + 1) 30 [.int .i64 kd, .int .i64 on, .int .i64 a, .int .i64 m] := by
    rw [hwB]; exact h.box2 (enCell e) [.int .i64 kd, .int .i64 on, .int .i64 a, .int .i64 m] 108 72
  clear hv hr stB
  obtain ⟨ea, en, ev, er, ew, ep⟩ := e
  simp only at *
  subst hqv hqr
  have HW := Lib.hid hwB
  have HRB := Lib.hid hRB
  have HI := Lib.hid hi
  clear hwB hRB hi
  simp only [enVal, opVal, enCell] at HW ⊢
  go_enter Try.func53, Try.ntmps53
  go_wp2_with fail
  rw [← HW.out]
  refine (Vw.part_no q en cap ea _ a m (by omega) ha HI.out).mono ?_; rintro r wC ⟨rfl, bC⟩
  have stC := Step.of_below (L := LB) bC (fun _ => False) 30
  have hRC := HRB.out.below bC
  have cC1 := cB1.step stC (fun x => x)
  have cC2 := cB2.step stC (fun x => x)
  generalize ext LB wB.heap.size 30 = LC at *
  obtain ⟨wD, hwD⟩ : ∃ wD, wD = wC.alloc (Obj.cells #[.slice none 0 0, .int .i64 0, .pointer none] 51) := ⟨_, rfl⟩
  obtain ⟨LD, hRD, stD, cD7⟩ : ∃ LD, Room w0 mb LD wD s ∧ Step (fun _ => False) LC wC LD wD ∧ Cells LD wD wC.heap.size 30 [.slice none 0 0, .int .i64 0, .pointer none] := by
    rw [hwD]; exact hRC.box [.slice none 0 0, .int .i64 0, .pointer none] 51
  have cD1 := cC1.step stD (fun x => x)
  have cD2 := cC2.step stD (fun x => x)
  have l1 := cC1.1
  have l2 := cC2.1
  have c3 : ∀ o, (wC.alloc o).cell? ⟨w.heap.size, 3, none⟩ = some (.slice q2 en cap2) := fun o => by rw [World.cell?_alloc_lt _ _ _ l1]; exact cC1.2.2 3 _ rfl
  have c4 : ∀ o, (wC.alloc o).cell? ⟨w.heap.size, 4, none⟩ = some (.int .i64 (ea : Int)) := fun o => by rw [World.cell?_alloc_lt _ _ _ l1]; exact cC1.2.2 4 _ rfl
  have d2 : ∀ o, (wC.alloc o).cell? ⟨w.heap.size + 1, 2, none⟩ = some (.int .i64 a) := fun o => by rw [World.cell?_alloc_lt _ _ _ l2]; exact cC2.2.2 2 _ rfl
  have d3 : ∀ o, (wC.alloc o).cell? ⟨w.heap.size + 1, 3, none⟩ = some (.int .i64 m) := fun o => by rw [World.cell?_alloc_lt _ _ _ l2]; exact cC2.2.2 3 _ rfl
  have HW2 := Lib.hid hwD
  have HRD := Lib.hid hRD
  clear hwD hRD hRC stD bC cB1 cB2 cC1 cC2 l1 l2
  go_wp2_with fail
  rw [← HW2.out]
  refine (rpart_no q2 en cap2 ea a m (by omega) ha HI.out).mono ?_; rintro r wE ⟨rfl, bE⟩
  have stE := Step.of_below (L := LD) bE (fun _ => False) 30
  have hRE := HRD.out.below bE
  have cE7 := cD7.step stE (fun x => x)
  generalize ext LD wD.heap.size 30 = LE at *
  obtain ⟨wF, hwF⟩ : ∃ wF, wF = wE.alloc (Obj.cells #[.slice none 0 0, .int .i64 0] 106) := ⟨_, rfl⟩
  obtain ⟨LF, hRF, stF, cF9⟩ : ∃ LF, Room w0 mb LF wF s ∧ Step (fun _ => False) LE wE LF wF ∧ Cells LF wF wE.heap.size 30 [.slice none 0 0, .int .i64 0] := by
    rw [hwF]; exact hRE.box [.slice none 0 0, .int .i64 0] 106
  have cF7 := cE7.step stF (fun x => x)
  have HW3 := Lib.hid hwF
  have HRF := Lib.hid hRF
  have t0 : wF.cell? ⟨wC.heap.size, 0, none⟩ = some (.slice none 0 0) := cF7.2.2 0 _ rfl
  have t1 : wF.cell? ⟨wC.heap.size, 1, none⟩ = some (.int .i64 0) := cF7.2.2 1 _ rfl
  have t2 : wF.cell? ⟨wC.heap.size, 2, none⟩ = some (.pointer none) := cF7.2.2 2 _ rfl
  have r0 : wF.cell? ⟨wE.heap.size, 0, none⟩ = some (.slice none 0 0) := cF9.2.2 0 _ rfl
  clear hwF hRF hRE stF stE bE cE7 cF7 cF9 cD7 cD1 cD2
  go_wp2_with fail
  rw [← HW3.out]
  refine Late.region (fun w' => w'.cell? ⟨wC.heap.size, 0, none⟩ = some (.slice none 0 0) ∧ w'.cell? ⟨wC.heap.size, 1, none⟩ = some (.int .i64 0) ∧ w'.cell? ⟨wC.heap.size, 2, none⟩ = some (.pointer none) ∧ w'.cell? ⟨wE.heap.size, 0, none⟩ = some (.slice none 0 0)) (fun _ => false) (by kernel_rfl) ?_
  refine Late.takeC (i := 0) (v := ?_) rfl (by kernel_rfl) (by kernel_rfl) (by kernel_rfl) (by kernel_rfl) (fun _ _ _ h => h) (Or.inl ⟨by rfl, ?_⟩) ⟨t0, t1, t2, r0⟩ ?_
  rotate_left
  · intro w' hS
    obtain ⟨s1, s2, s3, s4⟩ := hS
    go_simp
    rfl
  refine Late.takeC (i := 2) (v := ?_) rfl (by kernel_rfl) (by kernel_rfl) (by kernel_rfl) (by kernel_rfl) (fun _ _ _ h => h) (Or.inl ⟨by rfl, ?_⟩) ⟨t0, t1, t2, r0⟩ ?_
  rotate_left
  · intro w' hS
    obtain ⟨s1, s2, s3, s4⟩ := hS
    go_simp
    rfl
  refine Late.takeC (i := 3) (v := ?_) rfl (by kernel_rfl) (by kernel_rfl) (by kernel_rfl) (by kernel_rfl) (fun _ _ _ h => h) (Or.inl ⟨by rfl, ?_⟩) ⟨t0, t1, t2, r0⟩ ?_
  rotate_left
  · intro w' hS
    obtain ⟨s1, s2, s3, s4⟩ := hS
    go_simp
    rfl
  refine Late.takeC (i := 4) (v := ?_) rfl (by kernel_rfl) (by kernel_rfl) (by kernel_rfl) (by kernel_rfl) (fun _ _ _ h => h) (Or.inl ⟨by rfl, ?_⟩) ⟨t0, t1, t2, r0⟩ ?_
  rotate_left
  · intro w' hS
    obtain ⟨s1, s2, s3, s4⟩ := hS
    go_simp
    rfl
  refine Late.one (i := 1) (by kernel_rfl) rfl (fun K hK => ?_)
  go_simp
  refine (len_calls none 0 0 _ _).mono ?_; rintro r wH ⟨rfl, bH⟩
  have t0 := (bH.cell (World.block_lt_of_cell? _ _ t0)).trans t0
  have t1 := (bH.cell (World.block_lt_of_cell? _ _ t1)).trans t1
  have t2 := (bH.cell (World.block_lt_of_cell? _ _ t2)).trans t2
  have r0 := (bH.cell (World.block_lt_of_cell? _ _ r0)).trans r0
  refine hK _ _ (fun _ => ⟨t0, t1, t2, r0⟩) ?_
  clear hK K
  refine Late.one (i := 5) (by kernel_rfl) rfl (fun K hK => ?_)
  go_simp
  refine hK _ _ (fun _ => ⟨t0, t1, t2, r0⟩) ?_
  clear hK K
  refine Late.one (i := 6) (by kernel_rfl) rfl (fun K hK => ?_)
  go_simp
  refine hK _ _ (fun _ => ⟨t0, t1, t2, r0⟩) ?_
  clear hK K
  refine Late.done (by kernel_rfl) ?_ _
  have HS := Lib.hid (show Stepped w0 mb gb w1 w2 K wH from ⟨_, s, HRF.out.drew.below bH, g, b.mono (by omega)⟩)
  clear bH
  go_wp2_with fail
  go_ret
  exact ⟨by simp, HS.out⟩

theorem part_full {w0 : World} {mb gb w1 w2 : Nat} {L : Nat → Nat} {w : World} {s : Rm} {K : Nat} (h : Room w0 mb L w s) (g : Good gb w1 w2 s) (b : Bound s K) (e : En) (he : Ent gb s.N w1 w2 e)
    (kd on a m : Int) (ha : a ≤ 9223372036854775807) (x y : Nat) (hax : a = x) (hmy : m = y) (hxy : x + y ≤ e.n) (hfull : ¬ s.l.length < 40) :
    Calls Try.prog 53 #[.pointer (some ⟨mb, 0, none⟩), enVal e, opVal kd on a m] w fun r w' => r = .returned (.bool true) ∧ Stepped w0 mb gb w1 w2 K w' := by
  obtain ⟨q, cap, hqv, hq1, hq2, hv⟩ := h.view g he
  obtain ⟨q2, cap2, hqr, hr1, hr2, hr⟩ := h.ref g he
  have hf := he.fits
  have hsm := g.small
  obtain ⟨wB, hwB⟩ : ∃ wB, wB = (w.alloc (Obj.cells (enCell e).toArray 108)).alloc (Obj.cells #[.int .i64 kd, .int .i64 on, .int .i64 a, .int .i64 m] 72) := ⟨_, rfl⟩
  obtain ⟨LB, hRB, stB, cB1, cB2⟩ : ∃ LB, Room w0 mb LB wB s ∧ Step (fun _ => False) L w LB wB ∧ Cells LB wB w.heap.size 30 (enCell e) ∧ Cells LB wB (w.heap.size + 1) 30 [.int .i64 kd, .int .i64 on, .int .i64 a, .int .i64 m] := by
    rw [hwB]; exact h.box2 (enCell e) [.int .i64 kd, .int .i64 on, .int .i64 a, .int .i64 m] 108 72
  clear hv hr stB
  have hat1 : At gb (e.a + x) y (.slice (cutAt q x y) y y) := (hqv ▸ he.v : At gb e.a e.n (.slice q e.n cap)).cut hxy
  have hat2 : At gb (e.a + x) y (.slice (rcut q2 x (cap2 - x)) y (cap2 - x)) := (hqr ▸ he.r : At gb e.a e.n (.slice q2 e.n cap2)).rcut hxy
  have hEnt : Ent gb s.N w1 w2 ⟨e.a + x, y, .slice (cutAt q x y) y y, .slice (rcut q2 x (cap2 - x)) y (cap2 - x), e.who, e.p⟩ := ⟨by simp only; omega, hat1, hat2, he.who, he.p⟩
  obtain ⟨ea, en, ev, er, ew, ep⟩ := e
  simp only at *
  subst hqv hqr hax hmy
  have hwr : wrap64 ((ea : Int) + x) = ((ea + x : Nat) : Int) := by unfold wrap64; omega
  have hwr2 : (ea : Int) + x = ((ea + x : Nat) : Int) := by omega
  obtain ⟨X, hX⟩ : ∃ X, X = ea + x := ⟨_, rfl⟩
  rw [← hX] at hwr hwr2 hEnt
  have HWR := Lib.hid hwr
  have HWR2 := Lib.hid hwr2
  have HX := Lib.hid hX
  have HEnt := Lib.hid hEnt
  have HW := Lib.hid hwB
  have HRB := Lib.hid hRB
  clear hwB hRB hwr hwr2 hX hat1 hat2 hEnt
  obtain ⟨Q1, hQ1⟩ : ∃ Q1, Q1 = cutAt q x y := ⟨_, rfl⟩
  obtain ⟨Q2, hQ2⟩ : ∃ Q2, Q2 = rcut q2 x (cap2 - x) := ⟨_, rfl⟩
  have HQ1 := Lib.hid hQ1
  have HQ2 := Lib.hid hQ2
  rw [← hQ1, ← hQ2] at HEnt
  clear hQ1 hQ2
  simp only [enVal, opVal, enCell] at HW ⊢
  go_enter Try.func53, Try.ntmps53
  go_wp2_with fail
  rw [← HW.out]
  refine (Vw.part_yes q en cap ea _ x y (by omega) hxy hq1).mono ?_; rintro r wC ⟨rfl, bC⟩
  rw [HWR.out, ← HQ1.out]
  have stC := Step.of_below (L := LB) bC (fun _ => False) 30
  have hRC := HRB.out.below bC
  have cC1 := cB1.step stC (fun x => x)
  have cC2 := cB2.step stC (fun x => x)
  generalize ext LB wB.heap.size 30 = LC at *
  obtain ⟨wD, hwD⟩ : ∃ wD, wD = wC.alloc (Obj.cells #[.slice Q1 y y, .int .i64 (X : Int), (.pointer (ep.map fun b => ⟨b, 0, none⟩))] 51) := ⟨_, rfl⟩
  obtain ⟨LD, hRD, stD, cD7⟩ : ∃ LD, Room w0 mb LD wD s ∧ Step (fun _ => False) LC wC LD wD ∧ Cells LD wD wC.heap.size 30 [.slice Q1 y y, .int .i64 (X : Int), (.pointer (ep.map fun b => ⟨b, 0, none⟩))] := by
    rw [hwD]; exact hRC.box [.slice Q1 y y, .int .i64 (X : Int), (.pointer (ep.map fun b => ⟨b, 0, none⟩))] 51
  have cD1 := cC1.step stD (fun x => x)
  have cD2 := cC2.step stD (fun x => x)
  have l1 := cC1.1
  have l2 := cC2.1
  have c3 : ∀ o, (wC.alloc o).cell? ⟨w.heap.size, 3, none⟩ = some (.slice q2 en cap2) := fun o => by rw [World.cell?_alloc_lt _ _ _ l1]; exact cC1.2.2 3 _ rfl
  have c4 : ∀ o, (wC.alloc o).cell? ⟨w.heap.size, 4, none⟩ = some (.int .i64 (ea : Int)) := fun o => by rw [World.cell?_alloc_lt _ _ _ l1]; exact cC1.2.2 4 _ rfl
  have d2 : ∀ o, (wC.alloc o).cell? ⟨w.heap.size + 1, 2, none⟩ = some (.int .i64 (x : Int)) := fun o => by rw [World.cell?_alloc_lt _ _ _ l2]; exact cC2.2.2 2 _ rfl
  have d3 : ∀ o, (wC.alloc o).cell? ⟨w.heap.size + 1, 3, none⟩ = some (.int .i64 (y : Int)) := fun o => by rw [World.cell?_alloc_lt _ _ _ l2]; exact cC2.2.2 3 _ rfl
  have HW2 := Lib.hid hwD
  have HRD := Lib.hid hRD
  clear hwD hRD hRC stD bC cB1 cB2 cC1 cC2 l1 l2
  go_wp2_with fail
  rw [← HW2.out]
  refine (rpart_yes q2 en cap2 ea x y (by omega) hxy hr1 (by omega) (by omega)).mono ?_; rintro r wE ⟨rfl, bE⟩
  rw [HWR2.out, ← HQ2.out]
  have stE := Step.of_below (L := LD) bE (fun _ => False) 30
  have hRE := HRD.out.below bE
  have cE7 := cD7.step stE (fun x => x)
  have cE1 := cD1.step stE (fun x => x)
  generalize ext LD wD.heap.size 30 = LE at *
  obtain ⟨wF, hwF⟩ : ∃ wF, wF = wE.alloc (Obj.cells #[.slice Q2 y (cap2 - x), .int .i64 (X : Int)] 106) := ⟨_, rfl⟩
  obtain ⟨LF, hRF, stF, cF9⟩ : ∃ LF, Room w0 mb LF wF s ∧ Step (fun _ => False) LE wE LF wF ∧ Cells LF wF wE.heap.size 30 [.slice Q2 y (cap2 - x), .int .i64 (X : Int)] := by
    rw [hwF]; exact hRE.box [.slice Q2 y (cap2 - x), .int .i64 (X : Int)] 106
  have cF7 := cE7.step stF (fun x => x)
  have cF1 := cE1.step stF (fun x => x)
  obtain ⟨p0, cap0, hv0, _⟩ := ownsRow_shape hRF.list.1
  have hmE := lt_of_heap hRE.obj
  have fl : ∀ o, (wE.alloc o).cell? ⟨mb, 2, none⟩ = some (.slice p0 s.l.length cap0) := fun o => by rw [World.cell?_alloc_lt _ _ _ hmE, cell_of_heap hRE.obj, ← hv0]; rfl
  have lv : wF.cell? ⟨mb, 2, none⟩ = some (.slice p0 s.l.length cap0) := by rw [cell_of_heap hRF.obj, ← hv0]; rfl
  have HW3 := Lib.hid hwF
  have t0 : wF.cell? ⟨wC.heap.size, 0, none⟩ = some (.slice Q1 y y) := cF7.2.2 0 _ rfl
  have t1 : wF.cell? ⟨wC.heap.size, 1, none⟩ = some (.int .i64 (X : Int)) := cF7.2.2 1 _ rfl
  have t2 : wF.cell? ⟨wC.heap.size, 2, none⟩ = some (.pointer (ep.map fun b => ⟨b, 0, none⟩)) := cF7.2.2 2 _ rfl
  have r0 : wF.cell? ⟨wE.heap.size, 0, none⟩ = some (.slice Q2 y (cap2 - x)) := cF9.2.2 0 _ rfl
  have r1 : wF.cell? ⟨wE.heap.size, 1, none⟩ = some (.int .i64 (X : Int)) := cF9.2.2 1 _ rfl
  have b5 : wF.cell? ⟨w.heap.size, 5, none⟩ = some (.int .i64 (ew : Int)) := cF1.2.2 5 _ rfl
  clear hRE stF stE bE cE7 cE1 cD7 cD1 cD2 hmE
  have HRF := Lib.hid hRF
  clear hwF hRF hv0 cF7 cF9 cF1
  go_wp2_with fail
  rw [← HW3.out]
  refine Late.region (fun w' => w'.cell? ⟨wC.heap.size, 0, none⟩ = some (.slice Q1 y y) ∧ w'.cell? ⟨wC.heap.size, 1, none⟩ = some (.int .i64 (X : Int)) ∧ w'.cell? ⟨wC.heap.size, 2, none⟩ = some (.pointer (ep.map fun b => ⟨b, 0, none⟩)) ∧ w'.cell? ⟨wE.heap.size, 0, none⟩ = some (.slice Q2 y (cap2 - x))) (fun _ => false) (by kernel_rfl) ?_
  refine Late.takeC (i := 0) (v := ?_) rfl (by kernel_rfl) (by kernel_rfl) (by kernel_rfl) (by kernel_rfl) (fun _ _ _ h => h) (Or.inl ⟨by rfl, ?_⟩) ⟨t0, t1, t2, r0⟩ ?_
  rotate_left
  · intro w' hS
    obtain ⟨s1, s2, s3, s4⟩ := hS
    go_simp
    rfl
  refine Late.takeC (i := 2) (v := ?_) rfl (by kernel_rfl) (by kernel_rfl) (by kernel_rfl) (by kernel_rfl) (fun _ _ _ h => h) (Or.inl ⟨by rfl, ?_⟩) ⟨t0, t1, t2, r0⟩ ?_
  rotate_left
  · intro w' hS
    obtain ⟨s1, s2, s3, s4⟩ := hS
    go_simp
    rfl
  refine Late.takeC (i := 3) (v := ?_) rfl (by kernel_rfl) (by kernel_rfl) (by kernel_rfl) (by kernel_rfl) (fun _ _ _ h => h) (Or.inl ⟨by rfl, ?_⟩) ⟨t0, t1, t2, r0⟩ ?_
  rotate_left
  · intro w' hS
    obtain ⟨s1, s2, s3, s4⟩ := hS
    go_simp
    rfl
  refine Late.takeC (i := 4) (v := ?_) rfl (by kernel_rfl) (by kernel_rfl) (by kernel_rfl) (by kernel_rfl) (fun _ _ _ h => h) (Or.inl ⟨by rfl, ?_⟩) ⟨t0, t1, t2, r0⟩ ?_
  rotate_left
  · intro w' hS
    obtain ⟨s1, s2, s3, s4⟩ := hS
    go_simp
    rfl
  refine Late.one (i := 1) (by kernel_rfl) rfl (fun K hK => ?_)
  go_simp
  refine (len_calls Q1 y y _ _).mono ?_; rintro r wH ⟨rfl, bH⟩
  have t0 := (bH.cell (World.block_lt_of_cell? _ _ t0)).trans t0
  have t1 := (bH.cell (World.block_lt_of_cell? _ _ t1)).trans t1
  have t2 := (bH.cell (World.block_lt_of_cell? _ _ t2)).trans t2
  have r0 := (bH.cell (World.block_lt_of_cell? _ _ r0)).trans r0
  refine hK _ _ (fun _ => ⟨t0, t1, t2, r0⟩) ?_
  clear hK K
  refine Late.one (i := 5) (by kernel_rfl) rfl (fun K hK => ?_)
  go_simp
  refine hK _ _ (fun _ => ⟨t0, t1, t2, r0⟩) ?_
  clear hK K
  refine Late.one (i := 6) (by kernel_rfl) rfl (fun K hK => ?_)
  go_simp
  refine hK _ _ (fun _ => ⟨t0, t1, t2, r0⟩) ?_
  clear hK K
  refine Late.done (by kernel_rfl) ?_ _
  have HS := Lib.hid (show Stepped w0 mb gb w1 w2 K wH from ⟨_, s, HRF.out.drew.below bH, g, b.mono (by omega)⟩)
  clear bH
  go_wp2_with fail
  go_ret
  exact ⟨by simp, HS.out⟩

theorem part_more {w0 : World} {mb gb w1 w2 : Nat} {L : Nat → Nat} {w : World} {s : Rm} {K : Nat} (h : Room w0 mb L w s) (g : Good gb w1 w2 s) (b : Bound s K) (e : En) (he : Ent gb s.N w1 w2 e)
    (kd on a m : Int) (ha : a ≤ 9223372036854775807) (x y : Nat) (hax : a = x) (hmy : m = y) (hxy : x + y ≤ e.n) (hmore : s.l.length < 40) :
    Calls Try.prog 53 #[.pointer (some ⟨mb, 0, none⟩), enVal e, opVal kd on a m] w fun r w' => r = .returned (.bool true) ∧ Stepped w0 mb gb w1 w2 K w' := by
  obtain ⟨q, cap, hqv, hq1, hq2, hv⟩ := h.view g he
  obtain ⟨q2, cap2, hqr, hr1, hr2, hr⟩ := h.ref g he
  have hf := he.fits
  have hsm := g.small
  obtain ⟨wB, hwB⟩ : ∃ wB, wB = (w.alloc (Obj.cells (enCell e).toArray 108)).alloc (Obj.cells #[.int .i64 kd, .int .i64 on, .int .i64 a, .int .i64 m] 72) := ⟨_, rfl⟩
  obtain ⟨LB, hRB, stB, cB1, cB2⟩ : ∃ LB, Room w0 mb LB wB s ∧ Step (fun _ => False) L w LB wB ∧ Cells LB wB w.heap.size 30 (enCell e) ∧ Cells LB wB (w.heap.size + 1) 30 [.int .i64 kd, .int .i64 on, .int .i64 a, .int .i64 m] := by
    rw [hwB]; exact h.box2 (enCell e) [.int .i64 kd, .int .i64 on, .int .i64 a, .int .i64 m] 108 72
  clear hv hr stB
  have hat1 : At gb (e.a + x) y (.slice (cutAt q x y) y y) := (hqv ▸ he.v : At gb e.a e.n (.slice q e.n cap)).cut hxy
  have hat2 : At gb (e.a + x) y (.slice (rcut q2 x (cap2 - x)) y (cap2 - x)) := (hqr ▸ he.r : At gb e.a e.n (.slice q2 e.n cap2)).rcut hxy
  have hEnt : Ent gb s.N w1 w2 ⟨e.a + x, y, .slice (cutAt q x y) y y, .slice (rcut q2 x (cap2 - x)) y (cap2 - x), e.who, e.p⟩ := ⟨by simp only; omega, hat1, hat2, he.who, he.p⟩
  obtain ⟨ea, en, ev, er, ew, ep⟩ := e
  simp only at *
  subst hqv hqr hax hmy
  have hwr : wrap64 ((ea : Int) + x) = ((ea + x : Nat) : Int) := by unfold wrap64; omega
  have hwr2 : (ea : Int) + x = ((ea + x : Nat) : Int) := by omega
  obtain ⟨X, hX⟩ : ∃ X, X = ea + x := ⟨_, rfl⟩
  rw [← hX] at hwr hwr2 hEnt
  have HWR := Lib.hid hwr
  have HWR2 := Lib.hid hwr2
  have HX := Lib.hid hX
  have HEnt := Lib.hid hEnt
  have HW := Lib.hid hwB
  have HRB := Lib.hid hRB
  clear hwB hRB hwr hwr2 hX hat1 hat2 hEnt
  obtain ⟨Q1, hQ1⟩ : ∃ Q1, Q1 = cutAt q x y := ⟨_, rfl⟩
  obtain ⟨Q2, hQ2⟩ : ∃ Q2, Q2 = rcut q2 x (cap2 - x) := ⟨_, rfl⟩
  have HQ1 := Lib.hid hQ1
  have HQ2 := Lib.hid hQ2
  rw [← hQ1, ← hQ2] at HEnt
  clear hQ1 hQ2
  simp only [enVal, opVal, enCell] at HW ⊢
  go_enter Try.func53, Try.ntmps53
  go_wp2_with fail
  rw [← HW.out]
  refine (Vw.part_yes q en cap ea _ x y (by omega) hxy hq1).mono ?_; rintro r wC ⟨rfl, bC⟩
  rw [HWR.out, ← HQ1.out]
  have stC := Step.of_below (L := LB) bC (fun _ => False) 30
  have hRC := HRB.out.below bC
  have cC1 := cB1.step stC (fun x => x)
  have cC2 := cB2.step stC (fun x => x)
  generalize ext LB wB.heap.size 30 = LC at *
  obtain ⟨wD, hwD⟩ : ∃ wD, wD = wC.alloc (Obj.cells #[.slice Q1 y y, .int .i64 (X : Int), (.pointer (ep.map fun b => ⟨b, 0, none⟩))] 51) := ⟨_, rfl⟩
  obtain ⟨LD, hRD, stD, cD7⟩ : ∃ LD, Room w0 mb LD wD s ∧ Step (fun _ => False) LC wC LD wD ∧ Cells LD wD wC.heap.size 30 [.slice Q1 y y, .int .i64 (X : Int), (.pointer (ep.map fun b => ⟨b, 0, none⟩))] := by
    rw [hwD]; exact hRC.box [.slice Q1 y y, .int .i64 (X : Int), (.pointer (ep.map fun b => ⟨b, 0, none⟩))] 51
  have cD1 := cC1.step stD (fun x => x)
  have cD2 := cC2.step stD (fun x => x)
  have l1 := cC1.1
  have l2 := cC2.1
  have c3 : ∀ o, (wC.alloc o).cell? ⟨w.heap.size, 3, none⟩ = some (.slice q2 en cap2) := fun o => by rw [World.cell?_alloc_lt _ _ _ l1]; exact cC1.2.2 3 _ rfl
  have c4 : ∀ o, (wC.alloc o).cell? ⟨w.heap.size, 4, none⟩ = some (.int .i64 (ea : Int)) := fun o => by rw [World.cell?_alloc_lt _ _ _ l1]; exact cC1.2.2 4 _ rfl
  have d2 : ∀ o, (wC.alloc o).cell? ⟨w.heap.size + 1, 2, none⟩ = some (.int .i64 (x : Int)) := fun o => by rw [World.cell?_alloc_lt _ _ _ l2]; exact cC2.2.2 2 _ rfl
  have d3 : ∀ o, (wC.alloc o).cell? ⟨w.heap.size + 1, 3, none⟩ = some (.int .i64 (y : Int)) := fun o => by rw [World.cell?_alloc_lt _ _ _ l2]; exact cC2.2.2 3 _ rfl
  have HW2 := Lib.hid hwD
  have HRD := Lib.hid hRD
  clear hwD hRD hRC stD bC cB1 cB2 cC1 cC2 l1 l2
  go_wp2_with fail
  rw [← HW2.out]
  refine (rpart_yes q2 en cap2 ea x y (by omega) hxy hr1 (by omega) (by omega)).mono ?_; rintro r wE ⟨rfl, bE⟩
  rw [HWR2.out, ← HQ2.out]
  have stE := Step.of_below (L := LD) bE (fun _ => False) 30
  have hRE := HRD.out.below bE
  have cE7 := cD7.step stE (fun x => x)
  have cE1 := cD1.step stE (fun x => x)
  generalize ext LD wD.heap.size 30 = LE at *
  obtain ⟨wF, hwF⟩ : ∃ wF, wF = wE.alloc (Obj.cells #[.slice Q2 y (cap2 - x), .int .i64 (X : Int)] 106) := ⟨_, rfl⟩
  obtain ⟨LF, hRF, stF, cF9⟩ : ∃ LF, Room w0 mb LF wF s ∧ Step (fun _ => False) LE wE LF wF ∧ Cells LF wF wE.heap.size 30 [.slice Q2 y (cap2 - x), .int .i64 (X : Int)] := by
    rw [hwF]; exact hRE.box [.slice Q2 y (cap2 - x), .int .i64 (X : Int)] 106
  have cF7 := cE7.step stF (fun x => x)
  have cF1 := cE1.step stF (fun x => x)
  obtain ⟨p0, cap0, hv0, _⟩ := ownsRow_shape hRF.list.1
  have hmE := lt_of_heap hRE.obj
  have fl : ∀ o, (wE.alloc o).cell? ⟨mb, 2, none⟩ = some (.slice p0 s.l.length cap0) := fun o => by rw [World.cell?_alloc_lt _ _ _ hmE, cell_of_heap hRE.obj, ← hv0]; rfl
  have lv : wF.cell? ⟨mb, 2, none⟩ = some (.slice p0 s.l.length cap0) := by rw [cell_of_heap hRF.obj, ← hv0]; rfl
  have HW3 := Lib.hid hwF
  have t0 : wF.cell? ⟨wC.heap.size, 0, none⟩ = some (.slice Q1 y y) := cF7.2.2 0 _ rfl
  have t1 : wF.cell? ⟨wC.heap.size, 1, none⟩ = some (.int .i64 (X : Int)) := cF7.2.2 1 _ rfl
  have t2 : wF.cell? ⟨wC.heap.size, 2, none⟩ = some (.pointer (ep.map fun b => ⟨b, 0, none⟩)) := cF7.2.2 2 _ rfl
  have r0 : wF.cell? ⟨wE.heap.size, 0, none⟩ = some (.slice Q2 y (cap2 - x)) := cF9.2.2 0 _ rfl
  have r1 : wF.cell? ⟨wE.heap.size, 1, none⟩ = some (.int .i64 (X : Int)) := cF9.2.2 1 _ rfl
  have b5 : wF.cell? ⟨w.heap.size, 5, none⟩ = some (.int .i64 (ew : Int)) := cF1.2.2 5 _ rfl
  clear hRE stF stE bE cE7 cE1 cD7 cD1 cD2 hmE
  obtain ⟨i0, hi, hz0, hz1, hz2⟩ := info_parts infoSeen
  have hml := lt_of_heap hRF.obj
  have hmf : wF.frozen? ⟨mb, 2, none⟩ = false := frozen_of_heap hRF.obj
  have hownF : wF.ownsRow 0 108 6 (.slice p0 s.l.length cap0) s.l.length (enCells s.l) := by rw [← hv0]; exact hRF.list.1
  have HV := Lib.hid hv0
  have hne : some mb ≠ (Value.slice p0 s.l.length cap0).ownBlock := by
    intro e; have := hRF.list.2 mb (by rw [hv0]; exact e.symm); rw [hRF.objc] at this; cases this
  have hne7 : some wC.heap.size ≠ (Value.slice p0 s.l.length cap0).ownBlock := by
    intro e; have := hRF.list.2 _ (by rw [hv0]; exact e.symm); rw [cF7.2.1] at this; cases this
  have hne9 : some wE.heap.size ≠ (Value.slice p0 s.l.length cap0).ownBlock := by
    intro e; have := hRF.list.2 _ (by rw [hv0]; exact e.symm); rw [cF9.2.1] at this; cases this
  have hlt7 := cF7.1
  have hlt9 := cF9.1
  have hltb := World.block_lt_of_cell? _ _ b5
  have hneb : some w.heap.size ≠ (Value.slice p0 s.l.length cap0).ownBlock := by
    intro e; have := hRF.list.2 _ (by rw [hv0]; exact e.symm)
    rw [cF1.2.1] at this; cases this
  have fz : ∀ o, (wF.alloc o).frozen? ⟨mb, 2, none⟩ = false := fun o => by rw [World.frozen?_alloc_old _ _ _ (Nat.ne_of_lt hml)]; exact hmf
  have fa : ∀ (bb oo : Nat) (u : Value) (o : Obj), wF.cell? ⟨bb, oo, none⟩ = some u → (wF.alloc o).cell? ⟨bb, oo, none⟩ = some u := fun bb oo u o hu => by rw [World.cell?_alloc_lt _ _ _ (World.block_lt_of_cell? _ _ hu)]; exact hu
  have HRF := Lib.hid hRF
  have n7 : wC.heap.size ≠ mb := fun e => by have := cF7.2.1; rw [e, hRF.objc] at this; cases this
  have n9 : wE.heap.size ≠ mb := fun e => by have := cF9.2.1; rw [e, hRF.objc] at this; cases this
  have HN := Lib.hid (And.intro n7 n9)
  have HFA := Lib.hid fa
  clear hwF hRF hv0 cF7 cF9 cF1 fa n7 n9
  go_wp2_with fail
  rw [← HW3.out]
  refine Late.region (fun w' => w'.cell? ⟨mb, 2, none⟩ = some (.slice p0 s.l.length cap0) ∧ w'.cell? ⟨wC.heap.size, 0, none⟩ = some (.slice Q1 y y) ∧ w'.cell? ⟨wC.heap.size, 1, none⟩ = some (.int .i64 (X : Int)) ∧ w'.cell? ⟨wC.heap.size, 2, none⟩ = some (.pointer (ep.map fun b => ⟨b, 0, none⟩)) ∧ w'.cell? ⟨wE.heap.size, 0, none⟩ = some (.slice Q2 y (cap2 - x)) ∧ w'.cell? ⟨wE.heap.size, 1, none⟩ = some (.int .i64 (X : Int)) ∧ w'.cell? ⟨w.heap.size, 5, none⟩ = some (.int .i64 (ew : Int))) (fun j => decide (13 < j)) (by kernel_rfl) ?_
  refine Late.takeC (i := 0) (v := ?_) rfl (by kernel_rfl) (by kernel_rfl) (by kernel_rfl) (by kernel_rfl) (fun _ _ _ h => h) (Or.inl ⟨by rfl, ?_⟩) ⟨lv, t0, t1, t2, r0, r1, b5⟩ ?_
  rotate_left
  · intro w' hS
    obtain ⟨s1, s2, s3, s4, s5, s6, s7⟩ := hS
    go_simp
    rfl
  refine Late.takeC (i := 1) (v := ?_) rfl (by kernel_rfl) (by kernel_rfl) (by kernel_rfl) (by kernel_rfl) (fun _ _ _ h => h) (Or.inl ⟨by rfl, ?_⟩) ⟨lv, t0, t1, t2, r0, r1, b5⟩ ?_
  rotate_left
  · intro w' hS
    obtain ⟨s1, s2, s3, s4, s5, s6, s7⟩ := hS
    go_simp
    rfl
  refine Late.takeC (i := 2) (v := ?_) rfl (by kernel_rfl) (by kernel_rfl) (by kernel_rfl) (by kernel_rfl) (fun _ _ _ h => h) (Or.inl ⟨by rfl, ?_⟩) ⟨lv, t0, t1, t2, r0, r1, b5⟩ ?_
  rotate_left
  · intro w' hS
    obtain ⟨s1, s2, s3, s4, s5, s6, s7⟩ := hS
    go_simp
    rfl
  refine Late.takeC (i := 3) (v := ?_) rfl (by kernel_rfl) (by kernel_rfl) (by kernel_rfl) (by kernel_rfl) (fun _ _ _ h => h) (Or.inl ⟨by rfl, ?_⟩) ⟨lv, t0, t1, t2, r0, r1, b5⟩ ?_
  rotate_left
  · intro w' hS
    obtain ⟨s1, s2, s3, s4, s5, s6, s7⟩ := hS
    go_simp
    rfl
  refine Late.takeC (i := 4) (v := ?_) rfl (by kernel_rfl) (by kernel_rfl) (by kernel_rfl) (by kernel_rfl) (fun _ _ _ h => h) (Or.inl ⟨by rfl, ?_⟩) ⟨lv, t0, t1, t2, r0, r1, b5⟩ ?_
  rotate_left
  · intro w' hS
    obtain ⟨s1, s2, s3, s4, s5, s6, s7⟩ := hS
    go_simp
    rfl
  refine Late.takeC (i := 5) (v := ?_) rfl (by kernel_rfl) (by kernel_rfl) (by kernel_rfl) (by kernel_rfl) (fun _ _ _ h => h) (Or.inl ⟨by rfl, ?_⟩) ⟨lv, t0, t1, t2, r0, r1, b5⟩ ?_
  rotate_left
  · intro w' hS
    obtain ⟨s1, s2, s3, s4, s5, s6, s7⟩ := hS
    go_simp
    rfl
  refine Late.takeC (i := 6) (v := ?_) rfl (by kernel_rfl) (by kernel_rfl) (by kernel_rfl) (by kernel_rfl) (fun _ _ _ h => h) (Or.inl ⟨by rfl, ?_⟩) ⟨lv, t0, t1, t2, r0, r1, b5⟩ ?_
  rotate_left
  · intro w' hS
    obtain ⟨s1, s2, s3, s4, s5, s6, s7⟩ := hS
    go_simp
    rfl
  refine Late.takeC (i := 7) (v := ?_) rfl (by kernel_rfl) (by kernel_rfl) (by kernel_rfl) (by kernel_rfl) (fun _ _ _ h => h) (Or.inl ⟨by rfl, ?_⟩) ⟨lv, t0, t1, t2, r0, r1, b5⟩ ?_
  rotate_left
  · intro w' hS
    obtain ⟨s1, s2, s3, s4, s5, s6, s7⟩ := hS
    go_simp
    rfl
  refine Late.takeC (i := 8) (v := ?_) rfl (by kernel_rfl) (by kernel_rfl) (by kernel_rfl) (by kernel_rfl) (fun _ _ _ h => h) (Or.inl ⟨by rfl, ?_⟩) ⟨lv, t0, t1, t2, r0, r1, b5⟩ ?_
  rotate_left
  · intro w' hS
    obtain ⟨s1, s2, s3, s4, s5, s6, s7⟩ := hS
    go_simp
    rfl
  refine Late.takeC (i := 9) (v := ?_) rfl (by kernel_rfl) (by kernel_rfl) (by kernel_rfl) (by kernel_rfl) (fun _ _ _ h => h) (Or.inl ⟨by rfl, ?_⟩) ⟨lv, t0, t1, t2, r0, r1, b5⟩ ?_
  rotate_left
  · intro w' hS
    obtain ⟨s1, s2, s3, s4, s5, s6, s7⟩ := hS
    go_simp
    rfl
  refine Late.one (i := 10) (by kernel_rfl) rfl (fun K hK => ?_)
  go_simp
  refine hK _ _ (fun _ => ⟨HFA.out _ _ _ _ lv, HFA.out _ _ _ _ t0, HFA.out _ _ _ _ t1, HFA.out _ _ _ _ t2, HFA.out _ _ _ _ r0, HFA.out _ _ _ _ r1, HFA.out _ _ _ _ b5⟩) ?_
  clear hK K
  refine Late.one (i := 11) (by kernel_rfl) rfl (fun K hK => ?_)
  refine step_append_lies _ (by rfl) _ _ _ (by rfl) 0 108 i0 _ 6 80 Try.underlying93 hi hz0 hz1 hz2 rfl (by omega) (.slice p0 s.l.length cap0) s.l.length (enCells s.l) (by rfl) ((hownF.alloc _).drew) ⟨wF.heap.size, 0, none⟩ 1 1 [.slice Q1 y y, .int .i64 (X : Int), (.pointer (ep.map fun b => ⟨b, 0, none⟩)), .slice Q2 y (cap2 - x), .int .i64 (X : Int), .int .i64 (ew : Int)] (by rfl) (by rfl) (World.news_of_block (cs := #[.slice Q1 y y, .int .i64 (X : Int), (.pointer (ep.map fun b => ⟨b, 0, none⟩)), .slice Q2 y (cap2 - x), .int .i64 (X : Int), .int .i64 (ew : Int)]) (t := 108) (fr := (0, 0)) (heap_alloc_new wF _)) (by simp [Value.oneCell']) (by omega) (by unfold maxLen; omega) (by omega) (by omega) (wF.heap.size + 1) (by simp) ?_
  intro gg cap1 wG hown1 hgrow hat hlt
  have far : ∀ {bb oo u}, wF.cell? ⟨bb, oo, none⟩ = some u → some bb ≠ (Value.slice p0 s.l.length cap0).ownBlock → wG.cell? ⟨bb, oo, none⟩ = some u := fun hu hn =>
    (hgrow.cell_far _ (by have := World.block_lt_of_cell? _ _ hu; simp at this ⊢; omega) hn).trans (HFA.out _ _ _ _ hu)
  have e0 : wG.frozen? ⟨mb, 2, none⟩ = false := (hgrow.frozen_far _ (by simp; omega) hne).trans (fz _)
  have lv := far lv hne
  have t0 := far t0 hne7
  have t1 := far t1 hne7
  have t2 := far t2 hne7
  have r0 := far r0 hne9
  have r1 := far r1 hne9
  have b5 := far b5 hneb
  refine hK _ _ (fun _ => ⟨lv, t0, t1, t2, r0, r1, b5⟩) ?_
  clear hK K far
  refine Late.one (i := 12) (by kernel_rfl) rfl (fun K hK => ?_)
  go_simp
  refine hK _ _ (fun _ => ⟨lv, t0, t1, t2, r0, r1, b5⟩) ?_
  clear hK K
  refine Late.one (i := 13) (by kernel_rfl) rfl (fun K hK => ?_)
  go_simp
  refine hK _ _ (fun _ => ⟨lv, t0, t1, t2, r0, r1, b5⟩) ?_
  clear hK K
  refine Late.one (i := 14) (by kernel_rfl) rfl (fun K hK => ?_)
  go_simp
  refine hK _ _ (fun h => by cases h) ?_
  clear hK K
  refine Late.done (by kernel_rfl) ?_ _
  have hown2 : wG.ownsRow 0 108 6 (.slice (some ⟨gg, 0, none⟩) (s.l.length + 1) cap1) (s.l ++ [En.mk X y (.slice Q1 y y) (.slice Q2 y (cap2 - x)) ew ep]).length (enCells (s.l ++ [En.mk X y (.slice Q1 y y) (.slice Q2 y (cap2 - x)) ew ep])) := by
    rw [enCells_append, List.length_append]; exact hown1
  obtain ⟨LI, stI, o1, o2⟩ := list_grown (j := 2) HRF.out.obj HRF.out.objc (c := 15) (by decide) HRF.out.list ((below_alloc wF (Obj.cells #[.slice Q1 y y, .int .i64 (X : Int), (.pointer (ep.map fun b => ⟨b, 0, none⟩)), .slice Q2 y (cap2 - x), .int .i64 (X : Int), .int .i64 (ew : Int)] 108)).drew) hown2 (by rw [HV.out]; exact hgrow) (by
    intro g hg
    have hg' : gg = g := by simpa [Value.ownBlock] using hg
    rw [← hg', HV.out]
    rcases hat with h | h
    · exact .inl h
    · right; show wF.heap.size ≤ gg; omega)
  have hRI := HRF.out.put_lv stI (fun d hd => hd) (by simpa [Rm.cells] using o1) o2
  obtain ⟨wI, hwI⟩ : ∃ wI, wI = wG.setCell ⟨mb, 2, none⟩ (.slice (some ⟨gg, 0, none⟩) (s.l.length + 1) cap1) := ⟨_, rfl⟩
  rw [← hwI] at hRI
  have HRI := Lib.hid hRI
  have HWI := Lib.hid hwI
  have HG := Lib.hid (add_good g (.slice (some ⟨gg, 0, none⟩) (s.l.length + 1) cap1) HEnt.out hmore)
  have nw1 : ∀ {bb oo u}, wG.cell? ⟨bb, oo, none⟩ = some u → bb ≠ mb → wI.cell? ⟨bb, oo, none⟩ = some u := fun hu hn => by
    rw [hwI]; exact (World.cell?_of_block (Below.heap_setCell _ _ _ _ hn)).trans hu
  obtain ⟨n7, n9⟩ := HN.out
  have t0 := nw1 t0 n7
  have t1 := nw1 t1 n7
  have t2 := nw1 t2 n7
  have r0 := nw1 r0 n9
  clear stI o1 o2 hown1 hown2 hgrow hRI hwI nw1 hat hlt lv r1 b5 e0
  go_wp2_with fail
  rw [← HWI.out]
  refine Late.region (fun w' => w'.cell? ⟨wC.heap.size, 0, none⟩ = some (.slice Q1 y y) ∧ w'.cell? ⟨wC.heap.size, 1, none⟩ = some (.int .i64 (X : Int)) ∧ w'.cell? ⟨wC.heap.size, 2, none⟩ = some (.pointer (ep.map fun b => ⟨b, 0, none⟩)) ∧ w'.cell? ⟨wE.heap.size, 0, none⟩ = some (.slice Q2 y (cap2 - x))) (fun _ => false) (by kernel_rfl) ?_
  refine Late.takeC (i := 0) (v := ?_) rfl (by kernel_rfl) (by kernel_rfl) (by kernel_rfl) (by kernel_rfl) (fun _ _ _ h => h) (Or.inl ⟨by rfl, ?_⟩) ⟨t0, t1, t2, r0⟩ ?_
  rotate_left
  · intro w' hS
    obtain ⟨s1, s2, s3, s4⟩ := hS
    go_simp
    rfl
  refine Late.takeC (i := 2) (v := ?_) rfl (by kernel_rfl) (by kernel_rfl) (by kernel_rfl) (by kernel_rfl) (fun _ _ _ h => h) (Or.inl ⟨by rfl, ?_⟩) ⟨t0, t1, t2, r0⟩ ?_
  rotate_left
  · intro w' hS
    obtain ⟨s1, s2, s3, s4⟩ := hS
    go_simp
    rfl
  refine Late.takeC (i := 3) (v := ?_) rfl (by kernel_rfl) (by kernel_rfl) (by kernel_rfl) (by kernel_rfl) (fun _ _ _ h => h) (Or.inl ⟨by rfl, ?_⟩) ⟨t0, t1, t2, r0⟩ ?_
  rotate_left
  · intro w' hS
    obtain ⟨s1, s2, s3, s4⟩ := hS
    go_simp
    rfl
  refine Late.takeC (i := 4) (v := ?_) rfl (by kernel_rfl) (by kernel_rfl) (by kernel_rfl) (by kernel_rfl) (fun _ _ _ h => h) (Or.inl ⟨by rfl, ?_⟩) ⟨t0, t1, t2, r0⟩ ?_
  rotate_left
  · intro w' hS
    obtain ⟨s1, s2, s3, s4⟩ := hS
    go_simp
    rfl
  refine Late.one (i := 1) (by kernel_rfl) rfl (fun K hK => ?_)
  go_simp
  refine (len_calls Q1 y y _ _).mono ?_; rintro r wH ⟨rfl, bH⟩
  have t0 := (bH.cell (World.block_lt_of_cell? _ _ t0)).trans t0
  have t1 := (bH.cell (World.block_lt_of_cell? _ _ t1)).trans t1
  have t2 := (bH.cell (World.block_lt_of_cell? _ _ t2)).trans t2
  have r0 := (bH.cell (World.block_lt_of_cell? _ _ r0)).trans r0
  refine hK _ _ (fun _ => ⟨t0, t1, t2, r0⟩) ?_
  clear hK K
  refine Late.one (i := 5) (by kernel_rfl) rfl (fun K hK => ?_)
  go_simp
  refine hK _ _ (fun _ => ⟨t0, t1, t2, r0⟩) ?_
  clear hK K
  refine Late.one (i := 6) (by kernel_rfl) rfl (fun K hK => ?_)
  go_simp
  refine hK _ _ (fun _ => ⟨t0, t1, t2, r0⟩) ?_
  clear hK K
  refine Late.done (by kernel_rfl) ?_ _
  have HS := Lib.hid (show Stepped w0 mb gb w1 w2 K wH from ⟨_, _, HRI.out.drew.below bH, HG.out, add_bound (b.mono (by omega)) _ _⟩)
  clear bH
  go_wp2_with fail
  go_ret
  exact ⟨by simp, HS.out⟩

end Go.Proofs.Ytajaonnpekdklaa.Vr
