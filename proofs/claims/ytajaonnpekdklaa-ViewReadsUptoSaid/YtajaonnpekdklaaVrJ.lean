import Derived.Test.YtajaonnpekdklaaVrI
import Derived.Deep.Cut
set_option linter.unusedVariables false
set_option maxRecDepth 100000
/-! room.raw (printed by wip/tools/vrj.py). -/
namespace Go.Proofs.Ytajaonnpekdklaa.Vr
open Go.ChangeShapes Go.WideShapes Go.ChangeAt Go.RowKit Mem Vw

theorem infoBytes : (Try.prog.info? 35).map (fun i => (i.zero, i.size, i.bytes)) = some (some (.slice none 0 0), 1, 24) := by kernel_rfl
theorem infoRef : (Try.prog.info? 106).map (fun i => (i.zero, i.size, i.bytes)) = some (some (.agg #[.slice none 0 0, .int .i64 0]), 2, 32) := by kernel_rfl

theorem ofCells_length (l : List En) : (ofCells l).length = l.length * 2 := by
  induction l with
  | nil => rfl
  | cons a l ih => simp [ofCells] at ih ⊢; omega
theorem ofCells_append (l : List En) (e : En) : ofCells (l ++ [e]) = ofCells l ++ [e.r, .int .i64 (e.a : Int)] := by simp [ofCells]

theorem At.whole {gb a n cap : Nat} {q : Option Addr} (h : At gb a n (.slice q n cap)) : At gb a n (.slice (cutAt q 0 n) n n) := h.cut (x := 0) (by omega)

theorem raw_good {gb w1 w2 : Nat} {s : Rm} (g : Good gb w1 w2 s) (v1 v2 r : Value) {e : En} (he : Ent gb s.N w1 w2 e) (hr : At gb e.a e.n r) : Good gb w1 w2 { s with rv := v1, rl := s.rl ++ [r], ov := v2, ol := s.ol ++ [e] } :=
  ⟨g.len, g.marks, g.av, g.small, g.p1, g.p2, g.ents, g.pos, g.most, g.e1, g.e2, by simp [g.rlen], fun i hi => by
    have hl := g.rlen
    by_cases e1 : i < s.ol.length
    · have := g.raws i e1
      simp only [List.getElem_append_left e1]
      exact ⟨this.1, this.2.1, fun v hv => this.2.2 v (by rwa [List.getElem?_append_left (by omega)] at hv)⟩
    · obtain rfl : i = s.ol.length := by simp at hi; omega
      refine ⟨by simpa using he.fits, by simpa using he.r, fun v hv => ?_⟩
      rw [List.getElem?_append_right (by omega)] at hv
      simp [hl] at hv
      subst hv
      simpa using hr⟩
theorem raw_bound {s : Rm} {K : Nat} (b : Bound s K) (v1 v2 r : Value) (e : List En) : Bound { s with rv := v1, rl := s.rl ++ [r], ov := v2, ol := e } (K + 1) :=
  ⟨by have := b.t1; simp; omega, by have := b.t2; simp; omega, by have := b.rl; simp; omega, by have := b.n0; simp; omega, by have := b.n1; simp; omega, by have := b.n2; simp; omega, by have := b.n3; simp; omega, b.m0, b.m1, b.m2, b.m3⟩

set_option maxHeartbeats 1000000 in
theorem raw_calls {w0 : World} {mb gb w1 w2 : Nat} {L : Nat → Nat} {w : World} {s : Rm} {K : Nat} (h : Room w0 mb L w s) (g : Good gb w1 w2 s) (b : Bound s K) (hK : K ≤ 1000000000) (e : En) (he : Ent gb s.N w1 w2 e) :
    Calls Try.prog 58 #[.pointer (some ⟨mb, 0, none⟩), enVal e] w fun r w' => r = .returned (.bool true) ∧ Stepped w0 mb gb w1 w2 K w' := by
  obtain ⟨q, cap, hqv, hq1, hq2, hv⟩ := h.view g he
  obtain ⟨q2, cap2, hqr, hr1, hr2, hr⟩ := h.ref g he
  have hf := he.fits
  have hsm := g.small
  have hwo := h.wopt g he
  have hbt := b.t e.who
  obtain ⟨wB, hwB⟩ : ∃ wB, wB = w.alloc (Obj.cells (enCell e).toArray 108) := ⟨_, rfl⟩
  obtain ⟨LB, hRB, stB, cB1⟩ : ∃ LB, Room w0 mb LB wB s ∧ Step (fun _ => False) L w LB wB ∧ Cells LB wB w.heap.size 30 (enCell e) := by
    rw [hwB]; exact h.box (enCell e) 108
  have hwoB := hwo.step stB (fun x => x)
  have hev := g.even e.who
  have hatw : At gb e.a e.n (.slice (cutAt q 0 e.n) e.n e.n) := (hqv ▸ he.v : At gb e.a e.n (.slice q e.n cap)).whole
  clear hv hr hwo stB
  obtain ⟨ea, en, ev, er, ew, ep⟩ := e
  simp only at *
  subst hqv hqr
  have HW := Lib.hid hwB
  have HRB := Lib.hid hRB
  have HEV := Lib.hid hev
  obtain ⟨Q1, hQ1⟩ : ∃ Q1, Q1 = cutAt q 0 en := ⟨_, rfl⟩
  rw [← hQ1] at hatw
  have HQ1 := Lib.hid hQ1
  have HAT := Lib.hid hatw
  clear hwB hRB hev hQ1 hatw
  simp only [enVal, enCell] at HW ⊢
  go_enter Try.func58, Try.ntmps58
  go_wp2_with fail
  rw [← HW.out]
  refine (vraw_calls hwoB (by rw [HEV.out]; omega) q en cap ea hq1 (by omega) (by omega) (by omega)).mono ?_; rintro r wC ⟨rfl, hrd⟩
  rw [← HQ1.out]
  obtain ⟨LC, stC, hRC⟩ := HRB.out.told g he hrd
  have cC1 := cB1.step (stC.mono (fun _ => wc_rc)) (by unfold Rc; omega)
  have c0 : wC.cell? ⟨w.heap.size, 0, none⟩ = some (.slice q en cap) := cC1.2.2 0 _ rfl
  have c1 : wC.cell? ⟨w.heap.size, 1, none⟩ = some (.int .i64 (ea : Int)) := cC1.2.2 1 _ rfl
  have c2 : wC.cell? ⟨w.heap.size, 2, none⟩ = some (wat ep) := cC1.2.2 2 _ rfl
  have c3 : wC.cell? ⟨w.heap.size, 3, none⟩ = some (.slice q2 en cap2) := cC1.2.2 3 _ rfl
  have c4 : wC.cell? ⟨w.heap.size, 4, none⟩ = some (.int .i64 (ea : Int)) := cC1.2.2 4 _ rfl
  have c5 : wC.cell? ⟨w.heap.size, 5, none⟩ = some (.int .i64 (ew : Int)) := cC1.2.2 5 _ rfl
  have HRC := Lib.hid hRC
  clear hRC hrd stC hwoB cB1
  go_wp2_with fail
  refine (room_told h g b hK he 0 en (by simp) HRC.out).mono ?_; rintro r wE ⟨rfl, LE, sE, stE, hRE, gE, bE, hN⟩
  have cE1 := cC1.step stE (by unfold Rc; omega)
  have hEnE : Ent gb sE.N w1 w2 ⟨ea, en, .slice q en cap, .slice q2 en cap2, ew, ep⟩ := by rw [hN]; exact he
  obtain ⟨pr, kr, hrv, _⟩ := ownsRow_shape hRE.raws.1
  have x9 : wE.cell? ⟨mb, 9, none⟩ = some (.slice pr sE.rl.length kr) := by rw [cell_of_heap hRE.obj, ← hrv]; rfl
  have hownE : wE.ownsRow 0 35 1 (.slice pr sE.rl.length kr) sE.rl.length sE.rl := by rw [← hrv]; exact hRE.raws.1
  have hrl := bE.rl
  have HRE := Lib.hid hRE
  have HRV := Lib.hid hrv
  clear hRE stE c0 c1 c2 c3 c4 c5 cC1 hrv hN
  go_wp2_with (at_builtin; refine wpList_append rfl (.tmp 22) (.tmp 24) 96 96 rfl 35 Try.underlying96 infoBytes rfl (by decide) _ sE.rl.length sE.rl rfl (hownE.alloc _) _ 1 [.slice Q1 en en] rfl (Src.fresh wE Try.underlying96 1 1 [.slice Q1 en en] rfl (by simp [Value.oneCell'])) (by unfold maxLen; omega) (by omega) ?_)
  intro v2 wF hownF hgF hblkF _
  obtain ⟨pf, kf, hvf, _⟩ := ownsRow_shape hownF
  subst hvf
  obtain ⟨LF, stF, o1, o2⟩ := list_grown (j := 9) HRE.out.obj HRE.out.objc (c := 16) (by decide) HRE.out.raws (below_alloc wE _) hownF (by rw [HRV.out]; exact hgF) (by
    intro g hg
    rw [HRV.out]
    rcases hblkF with h | h
    · left; rw [← h]; exact hg
    · right; rw [h] at hg; cases hg; simp)
  have hne : some mb ≠ (Value.slice pr sE.rl.length kr).ownBlock := by
    intro e; have := HRE.out.raws.2 mb (by rw [HRV.out]; exact e.symm); rw [HRE.out.objc] at this; cases this
  have hml := lt_of_heap HRE.out.obj
  have hkF : wF.heap[mb]? = some (.cells sE.cells 102 (0, 0)) := by
    rw [hgF.block mb (by simp; omega) hne, (below_alloc wE _).block mb hml]; exact HRE.out.obj
  have z9 : wF.cell? ⟨mb, 9, none⟩ = some (.slice pr sE.rl.length kr) := by rw [cell_of_heap hkF, ← HRV.out]; rfl
  have y9 : wF.frozen? ⟨mb, 9, none⟩ = false := frozen_of_heap hkF
  have hRF := HRE.out.put_rv (l := sE.rl ++ [.slice Q1 en en]) stF (fun d hd => hd) (by simpa [Rm.cells] using o1) (by simpa using o2)
  obtain ⟨wG, hwG⟩ : ∃ wG, wG = wF.setCell ⟨mb, 9, none⟩ (.slice pf (sE.rl.length + 1) kf) := ⟨_, rfl⟩
  rw [← hwG] at hRF stF
  have cG1 := cE1.step stF (by omega)
  obtain ⟨p0, cap0, hv0, _⟩ := ownsRow_shape hRF.ofs.1
  have hol : sE.ol.length ≤ K + 1 := by have := gE.rlen; omega
  have lv : wG.cell? ⟨mb, 10, none⟩ = some (.slice p0 sE.ol.length cap0) := by rw [cell_of_heap hRF.obj, ← hv0]; rfl
  have r0 : wG.cell? ⟨w.heap.size, 3, none⟩ = some (.slice q2 en cap2) := cG1.2.2 3 _ rfl
  have r1 : wG.cell? ⟨w.heap.size, 4, none⟩ = some (.int .i64 (ea : Int)) := cG1.2.2 4 _ rfl
  obtain ⟨i0, hi, hz0, hz1, hz2⟩ := info_parts infoRef
  have hmlG := lt_of_heap hRF.obj
  have hmf : wG.frozen? ⟨mb, 10, none⟩ = false := frozen_of_heap hRF.obj
  have hownG : wG.ownsRow 0 106 2 (.slice p0 sE.ol.length cap0) sE.ol.length (ofCells sE.ol) := by have := hRF.ofs.1; simp only at this hv0; rw [hv0] at this; exact this
  have hneG : some mb ≠ (Value.slice p0 sE.ol.length cap0).ownBlock := by
    intro e; have := hRF.ofs.2 mb (by simp only at hv0 ⊢; rw [hv0]; exact e.symm); rw [hRF.objc] at this; cases this
  have hneb : some w.heap.size ≠ (Value.slice p0 sE.ol.length cap0).ownBlock := by
    intro e; have := hRF.ofs.2 _ (by simp only at hv0 ⊢; rw [hv0]; exact e.symm); rw [cG1.2.1] at this; cases this
  have fz : ∀ o, (wG.alloc o).frozen? ⟨mb, 10, none⟩ = false := fun o => by rw [World.frozen?_alloc_old _ _ _ (Nat.ne_of_lt hmlG)]; exact hmf
  have fa : ∀ (bb oo : Nat) (u : Value) (o : Obj), wG.cell? ⟨bb, oo, none⟩ = some u → (wG.alloc o).cell? ⟨bb, oo, none⟩ = some u := fun bb oo u o hu => by rw [World.cell?_alloc_lt _ _ _ (World.block_lt_of_cell? _ _ hu)]; exact hu
  have HRF := Lib.hid hRF
  have HFA := Lib.hid fa
  have HWG := Lib.hid hwG
  have HV := Lib.hid hv0
  clear hRF fa hwG hv0 stF o1 o2 hownE hownF hgF hblkF x9 hkF hne cE1
  go_upto_region 4 with fail
  rw [← HWG.out]
  refine Late.region (fun w' => w'.cell? ⟨mb, 10, none⟩ = some (.slice p0 sE.ol.length cap0) ∧ w'.cell? ⟨w.heap.size, 3, none⟩ = some (.slice q2 en cap2) ∧ w'.cell? ⟨w.heap.size, 4, none⟩ = some (.int .i64 (ea : Int))) (fun j => decide (10 < j)) (by kernel_rfl) ?_
  refine Late.takeC (i := 0) (v := ?_) rfl (by kernel_rfl) (by kernel_rfl) (by kernel_rfl) (by kernel_rfl) (fun _ _ _ h => h) (Or.inl ⟨by rfl, ?_⟩) ⟨lv, r0, r1⟩ ?_
  rotate_left
  · intro w' hS
    obtain ⟨s1, s2, s3⟩ := hS
    go_simp
    rfl
  refine Late.takeC (i := 1) (v := ?_) rfl (by kernel_rfl) (by kernel_rfl) (by kernel_rfl) (by kernel_rfl) (fun _ _ _ h => h) (Or.inl ⟨by rfl, ?_⟩) ⟨lv, r0, r1⟩ ?_
  rotate_left
  · intro w' hS
    obtain ⟨s1, s2, s3⟩ := hS
    go_simp
    rfl
  refine Late.takeC (i := 2) (v := ?_) rfl (by kernel_rfl) (by kernel_rfl) (by kernel_rfl) (by kernel_rfl) (fun _ _ _ h => h) (Or.inl ⟨by rfl, ?_⟩) ⟨lv, r0, r1⟩ ?_
  rotate_left
  · intro w' hS
    obtain ⟨s1, s2, s3⟩ := hS
    go_simp
    rfl
  refine Late.takeC (i := 3) (v := ?_) rfl (by kernel_rfl) (by kernel_rfl) (by kernel_rfl) (by kernel_rfl) (fun _ _ _ h => h) (Or.inl ⟨by rfl, ?_⟩) ⟨lv, r0, r1⟩ ?_
  rotate_left
  · intro w' hS
    obtain ⟨s1, s2, s3⟩ := hS
    go_simp
    rfl
  refine Late.takeC (i := 4) (v := ?_) rfl (by kernel_rfl) (by kernel_rfl) (by kernel_rfl) (by kernel_rfl) (fun _ _ _ h => h) (Or.inl ⟨by rfl, ?_⟩) ⟨lv, r0, r1⟩ ?_
  rotate_left
  · intro w' hS
    obtain ⟨s1, s2, s3⟩ := hS
    go_simp
    rfl
  refine Late.takeC (i := 5) (v := ?_) rfl (by kernel_rfl) (by kernel_rfl) (by kernel_rfl) (by kernel_rfl) (fun _ _ _ h => h) (Or.inl ⟨by rfl, ?_⟩) ⟨lv, r0, r1⟩ ?_
  rotate_left
  · intro w' hS
    obtain ⟨s1, s2, s3⟩ := hS
    go_simp
    rfl
  refine Late.takeC (i := 6) (v := ?_) rfl (by kernel_rfl) (by kernel_rfl) (by kernel_rfl) (by kernel_rfl) (fun _ _ _ h => h) (Or.inl ⟨by rfl, ?_⟩) ⟨lv, r0, r1⟩ ?_
  rotate_left
  · intro w' hS
    obtain ⟨s1, s2, s3⟩ := hS
    go_simp
    rfl
  refine Late.one (i := 7) (by kernel_rfl) rfl (fun K hK => ?_)
  go_simp
  refine hK _ _ (fun _ => ⟨HFA.out _ _ _ _ lv, HFA.out _ _ _ _ r0, HFA.out _ _ _ _ r1⟩) ?_
  clear hK K
  refine Late.one (i := 8) (by kernel_rfl) rfl (fun K hK => ?_)
  refine step_append_lies _ (by rfl) _ _ _ (by rfl) 0 106 i0 _ 2 32 Try.underlying97 hi hz0 hz1 hz2 rfl (by omega) (.slice p0 sE.ol.length cap0) sE.ol.length (ofCells sE.ol) (by rfl) ((hownG.alloc _).drew) ⟨wG.heap.size, 0, none⟩ 1 1 [.slice q2 en cap2, .int .i64 (ea : Int)] (by rfl) (by rfl) (World.news_of_block (cs := #[.slice q2 en cap2, .int .i64 (ea : Int)]) (t := 106) (fr := (0, 0)) (heap_alloc_new wG _)) (by simp [Value.oneCell']) (by omega) (by unfold maxLen; omega) (by omega) (by omega) (wG.heap.size + 1) (by simp) ?_
  intro gg cap1 wH hown1 hgrow hat hlt
  have far : ∀ {bb oo u}, wG.cell? ⟨bb, oo, none⟩ = some u → some bb ≠ (Value.slice p0 sE.ol.length cap0).ownBlock → wH.cell? ⟨bb, oo, none⟩ = some u := fun hu hn =>
    (hgrow.cell_far _ (by have := World.block_lt_of_cell? _ _ hu; simp at this ⊢; omega) hn).trans (HFA.out _ _ _ _ hu)
  have e0 : wH.frozen? ⟨mb, 10, none⟩ = false := (hgrow.frozen_far _ (by simp; omega) hneG).trans (fz _)
  have lv := far lv hneG
  have r0 := far r0 hneb
  have r1 := far r1 hneb
  refine hK _ _ (fun _ => ⟨lv, r0, r1⟩) ?_
  clear hK K far
  refine Late.one (i := 9) (by kernel_rfl) rfl (fun K hK => ?_)
  go_simp
  refine hK _ _ (fun _ => ⟨lv, r0, r1⟩) ?_
  clear hK K
  refine Late.one (i := 10) (by kernel_rfl) rfl (fun K hK => ?_)
  go_simp
  refine hK _ _ (fun _ => ⟨lv, r0, r1⟩) ?_
  clear hK K
  refine Late.one (i := 11) (by kernel_rfl) rfl (fun K hK => ?_)
  go_simp
  refine hK _ _ (fun h => by cases h) ?_
  clear hK K
  refine Late.done (by kernel_rfl) ?_ _
  have hown2 : wH.ownsRow 0 106 2 (.slice (some ⟨gg, 0, none⟩) (sE.ol.length + 1) cap1) (sE.ol ++ [En.mk ea en (.slice q en cap) (.slice q2 en cap2) ew ep]).length (ofCells (sE.ol ++ [En.mk ea en (.slice q en cap) (.slice q2 en cap2) ew ep])) := by
    rw [ofCells_append, List.length_append]; exact hown1
  obtain ⟨LI, stI, o1, o2⟩ := list_grown (j := 10) HRF.out.obj HRF.out.objc (c := 17) (by decide) HRF.out.ofs ((below_alloc wG (Obj.cells #[.slice q2 en cap2, .int .i64 (ea : Int)] 106)).drew) hown2 (by simp only; have := HV.out; simp only at this; rw [this]; exact hgrow) (by
    intro g hg
    have hg' : gg = g := by simpa [Value.ownBlock] using hg
    have := HV.out; simp only at this ⊢; rw [← hg', this]
    rcases hat with h | h
    · exact .inl h
    · right; show wG.heap.size ≤ gg; omega)
  have hRI := HRF.out.put_ov stI (fun d hd => hd) (by simpa [Rm.cells] using o1) o2
  have gI := raw_good gE (.slice pf (sE.rl.length + 1) kf) (.slice (some ⟨gg, 0, none⟩) (sE.ol.length + 1) cap1) (.slice Q1 en en) hEnE HAT.out
  have bI := raw_bound bE (.slice pf (sE.rl.length + 1) kf) (.slice (some ⟨gg, 0, none⟩) (sE.ol.length + 1) cap1) (.slice Q1 en en) (sE.ol ++ [En.mk ea en (.slice q en cap) (.slice q2 en cap2) ew ep])
  obtain ⟨wI, hwI⟩ : ∃ wI, wI = wH.setCell ⟨mb, 10, none⟩ (.slice (some ⟨gg, 0, none⟩) (sE.ol.length + 1) cap1) := ⟨_, rfl⟩
  rw [← hwI] at hRI
  change Room w0 mb LI wI { sE with rv := .slice pf (sE.rl.length + 1) kf, rl := sE.rl ++ [.slice Q1 en en], ov := .slice (some ⟨gg, 0, none⟩) (sE.ol.length + 1) cap1, ol := sE.ol ++ [En.mk ea en (.slice q en cap) (.slice q2 en cap2) ew ep] } at hRI
  have HWI := Lib.hid hwI
  generalize hsI : ({ sE with rv := .slice pf (sE.rl.length + 1) kf, rl := sE.rl ++ [.slice Q1 en en], ov := .slice (some ⟨gg, 0, none⟩) (sE.ol.length + 1) cap1, ol := sE.ol ++ [En.mk ea en (.slice q en cap) (.slice q2 en cap2) ew ep] } : Rm) = sI at *
  have hNI : sI.N = sE.N := by rw [← hsI]
  have HFI := Lib.hid (show ea + en ≤ sI.N by rw [hNI]; exact hEnE.fits)
  clear stI o1 o2 hown1 hown2 hgrow hwI hat hlt lv r0 r1 e0 fz hneG hneb hownG hsI hNI gE bE HRF HFA HV HWG HRE HRV HRC
  obtain ⟨M, hM⟩ : ∃ M, M = sI.N + 9 := ⟨_, rfl⟩
  have hMb : M ≤ 1048585 := by have := gI.small; omega
  have hav := gI.av
  rw [← hM] at hav
  have hall : sI.all.length = M := by rw [hM]; exact gI.len
  have hrdI : Rd LI 1 wI 1 (.slice (some ⟨gb, 0, none⟩) M M) M (sI.all.map byt) := by have := (hRI.own gI).rd; rwa [← hM] at this
  have m0 : wI.cell? ⟨mb, 0, none⟩ = some (.slice (some ⟨gb, 0, none⟩) M M) := by rw [cell_of_heap hRI.obj, ← hav]; rfl
  obtain ⟨i1, hi1, hy0, hy1, hy2⟩ := info_parts (P := Try.prog) (e := 5) (z := .int .u8 0) (size := 1) (bytes := 1) Ink.infoByte
  have hmk := run_make (P := Try.prog) wI 35 5 i1 _ Try.underlying35 hi1 hy0 .i64 .i64 (M : Int) (M : Int) (by omega) (by omega) (by rw [hy2]; omega) (by omega)
  obtain ⟨C, hC⟩ : ∃ C, C = madeCells (Value.int .u8 0).cells ((M : Int).toNat * i1.size) := ⟨_, rfl⟩
  rw [← hC] at hmk
  have hCs : C.size = M := by rw [hC, size_madeCells, hy1]; simp
  clear hC
  rw [show ((M : Int)).toNat = M from by simp] at hmk
  have hcp := run_copy_last (P := Try.prog) wI 35 35 3 5 C 5 M M M M (some ⟨gb, 0, none⟩) (sI.all.map byt) Try.underlying35 (by rw [hi1]; simp [hy1]) (Nat.le_refl _) hCs (Nat.le_refl _) (byt_oneCell sI.all) hrdI
  rw [show C.toList.drop M = [] from by rw [List.drop_eq_nil_iff]; simp [hCs], List.append_nil] at hcp
  obtain ⟨stJ, owJ⟩ := Own.made LI 31 wI 5 1 M (sI.all.map byt) (by simpa using hall) (by unfold maxLen; omega)
  have hRJ := hRI.move stJ (fun _ x => x.elim)
  generalize ext LI wI.heap.size 31 = LJ at *
  have hmJ : mb < wI.heap.size := lt_of_heap hRI.obj
  have ma : ∀ o, (wI.alloc o).cell? ⟨mb, 0, none⟩ = some (.slice (some ⟨gb, 0, none⟩) M M) := fun o => by rw [World.cell?_alloc_lt _ _ _ hmJ]; exact m0
  have HRJ := Lib.hid hRJ
  have HGI := Lib.hid gI
  have HM := Lib.hid hM
  have HAL := Lib.hid hall
  clear hRI hRJ gI hM hav hall hrdI stJ
  go_upto_region 5 with fail
  rw [← HWI.out]
  go_wp2_with fail
  clear hmk hcp ma m0
  go_loopw [5, 7] (fun vl i wr => ∃ (k : Nat) (LW : Nat → Nat) (pl : Option Addr) (kl : Nat), k ≤ 3 ∧ i = .int .i64 (k : Int) ∧ vl = .slice pl (en + k) kl ∧ Room w0 mb LW wr sI ∧ Own LW 31 wr 5 1 (.slice (some ⟨wI.heap.size, 0, none⟩) M M) M (sI.all.map byt) ∧
    (k = 0 → At gb ea en vl ∧ kl = en) ∧ (0 < k → ∃ xs, Own LW 32 wr 5 1 vl (en + k) xs)) (fun _ i _ => 3 - (intOf i).toNat)
  case atStart => exact ⟨0, LJ, Q1, en, by omega, rfl, rfl, HRJ.out, owJ, fun _ => ⟨HAT.out, rfl⟩, fun h => absurd h (by omega)⟩
  case round =>
    obtain ⟨k, LW, pl, kl, hk, rfl, rfl, hRW, owW, hz, hp⟩ := hrel
    by_cases hk3 : k < 3
    · by_cases hk0 : k = 0
      · subst hk0
        obtain ⟨hat0, rfl⟩ := hz rfl
        obtain ⟨q5, cap5, hv5, _, _, hrd5⟩ := hat0.rd (hRW.own HGI.out) (by have := HFI.out; omega)
        cases hv5
        have hrd6 := hrd5.step (Step.of_below (below_alloc wr (.cells #[.int .u8 99] 5)) (fun _ => False) 32) (fun x => x)
        clear hrd5 hz hp
        go_wp2_with (at_builtin; refine wpList_append_tight rfl (.tmp 55) (.tmp 56) 35 35 rfl 5 Try.underlying35 Ink.infoByte rfl pl kl _ rfl hrd6 (byt_oneCell _) _ 1 [.int .u8 99] rfl (Src.fresh wr Try.underlying35 1 1 [.int .u8 99] rfl (by simp [Value.oneCell'])) (by omega) (by unfold maxLen; omega) (by omega) ?_)
        intro cap6 w5 hown5 hb5
        have hb6 : Below wr.heap.size wr w5 := (below_alloc wr _).trans (hb5.mono (by simp))
        have st6 : Step (fun _ => False) LW wr (ext LW wr.heap.size 32) w5 := Step.of_below hb6 _ 32
        have owl : Own (ext LW wr.heap.size 32) 32 w5 5 1 (.slice (some ⟨wr.heap.size + 1, 0, none⟩) (kl + 1) cap6) (kl + 1) _ := ⟨hown5, fun g hg => by cases hg; exact ext_new (by simp)⟩
        have HR6 := Lib.hid (hRW.move st6 (fun _ x => x.elim))
        have ow6 := owW.step st6 (fun x => x)
        clear hown5 hb5 hb6 hrd6 st6 hRW owW
        go_wp2_with fail
        go_roundw
        case rel => exact ⟨1, _, _, _, by omega, by go_num, rfl, HR6.out, ow6, fun h => absurd h (by omega), fun _ => ⟨_, owl⟩⟩
        case measure => simp [intOf]
      · obtain ⟨xs, owl⟩ := hp (by omega)
        clear hz hp
        go_wp2_with (at_builtin; refine wpList_append rfl (.tmp 55) (.tmp 56) 35 35 rfl 5 Try.underlying35 Ink.infoByte rfl (by decide) _ (en + k) xs rfl (owl.1.alloc _) _ 1 [.int .u8 99] rfl (Src.fresh wr Try.underlying35 1 1 [.int .u8 99] rfl (by simp [Value.oneCell'])) (by unfold maxLen; omega) (by omega) ?_)
        intro v4 w5 hown5 hg5 hblk5 _
        obtain ⟨L4, s4, ow4, st4⟩ := Own.grown (Step.refl (· = 32) LW _) rfl owl (below_alloc _ _) hown5 hg5 (by simpa using hblk5)
        obtain ⟨p4, cap4, hv4, _⟩ := ownsRow_shape ow4.1
        subst hv4
        have HR6 := Lib.hid (hRW.move st4 (fun d hd => by rw [show d = 32 from hd]; omega))
        have ow6 := owW.step st4 (by omega)
        clear hown5 hg5 hblk5 s4 st4 hRW owW owl
        go_wp2_with fail
        go_roundw
        case rel => exact ⟨k + 1, _, _, _, by omega, by go_num, rfl, HR6.out, ow6, fun h => absurd h (by omega), fun _ => ⟨_, ow4⟩⟩
        case measure => simp [intOf]; omega
    · obtain rfl : k = 3 := by omega
      have hav := HGI.out.av
      have hrdA := (hRW.own HGI.out).rd
      rw [← HM.out] at hav hrdA
      have m0 : wr.cell? ⟨mb, 0, none⟩ = some (.slice (some ⟨gb, 0, none⟩) M M) := by rw [cell_of_heap hRW.obj, ← hav]; rfl
      have hrdB := owW.rd
      have hrdA1 : Rd LW 1 wr 1 (.slice (some ⟨gb, 0, none⟩) M M) sI.all.length (sI.all.map byt) := by rw [HAL.out]; exact hrdA
      have hrdB1 : Rd LW 31 wr 1 (.slice (some ⟨wI.heap.size, 0, none⟩) M M) sI.all.length (sI.all.map byt) := by rw [HAL.out]; exact hrdB
      have hs : Ink.sameB sI.all sI.all = true := by simp [Ink.sameB]
      have hsame := Ink.same_calls hrdA1 hrdB1
      rw [hs] at hsame
      have HSAME := Lib.hid hsame
      clear hz hp hav hrdA hrdB hrdA1 hrdB1 hs hsame
      have HRW := Lib.hid hRW
      clear hRW owW
      go_wp2_with fail
      refine HSAME.out.mono ?_; rintro r wz ⟨rfl, nz, rfl⟩
      go_wp2_with fail
      go_ret
      exact ⟨rfl, LW, sI, HRW.out.drewN nz, HGI.out, bI⟩


end Go.Proofs.Ytajaonnpekdklaa.Vr
