import Derived.Test.YtcebdodogbpglaaRdG
set_option linter.unusedVariables false
set_option maxRecDepth 100000
/-! Next. -/
namespace Go.Proofs.Ytcebdodogbpglaa.Rdr
open Go.ChangeShapes Go.WideShapes Go.ChangeAt Go.RowKit Mem Put

theorem _root_.Go.Proofs.Ytcebdodogbpglaa.Mem.Step.setNew {C : Nat → Prop} {L L' : Nat → Nat} {w0 w : World} (h : Step C L w0 L' w) {kb j : Nat} {v : Value} (hk : w0.heap.size ≤ kb) : Step C L w0 L' (w.setCell ⟨kb, j, none⟩ v) :=
  ⟨h.os, h.tape, h.output, by have := h.size; simpa [World.setCell] using this, fun k hk' hc => (Below.heap_setCell _ _ _ _ (by simp; omega)).trans (h.block k hk' hc), h.col⟩

theorem zs_succ (t : Nat) : zs (t + 1) = zs t ++ [.slice none 0 0, .slice none 0 0, .int .i64 0] := by
  unfold zs; rw [List.replicate_succ', List.flatten_append]; rfl
theorem set3 (t : Nat) (a b d : Value) (r : List Value) : (((zs t ++ (a :: b :: d :: r)).set (t * 3) (.slice none 0 0)).set (t * 3 + 1) (.slice none 0 0)).set (t * 3 + 2) (.int .i64 0) = zs (t + 1) ++ r := by
  have hl : (zs t).length = t * 3 := by simp [zs]
  rw [zs_succ]
  simp only [List.set_append_right _ _ (by omega : (zs t).length ≤ t * 3), List.set_append_right _ _ (by omega : (zs t).length ≤ t * 3 + 1), List.set_append_right _ _ (by omega : (zs t).length ≤ t * 3 + 2), hl]
  simp
/-- The first that waits is struck out. -/
theorem Own.zero3 {L : Nat → Nat} {c n cap g t : Nat} {w : World} {a b d : Value} {r : List Value} (h : Own L c w 75 3 (.slice (some ⟨g, 0, none⟩) n cap) n (zs t ++ (a :: b :: d :: r))) :
    L g = c ∧ (∀ j, w.frozen? ⟨g, j, none⟩ = false) ∧ Own L c (((w.setCell ⟨g, t * 3, none⟩ (.slice none 0 0)).setCell ⟨g, t * 3 + 1, none⟩ (.slice none 0 0)).setCell ⟨g, t * 3 + 2, none⟩ (.int .i64 0)) 75 3 (.slice (some ⟨g, 0, none⟩) n cap) n (zs (t + 1) ++ r) ∧
      Step (· = c) L w L (((w.setCell ⟨g, t * 3, none⟩ (.slice none 0 0)).setCell ⟨g, t * 3 + 1, none⟩ (.slice none 0 0)).setCell ⟨g, t * 3 + 2, none⟩ (.int .i64 0)) := by
  have hl : (zs t).length = t * 3 := by simp [zs]
  have hfz : ∀ j, w.frozen? ⟨g, j, none⟩ = false := by
    intro j
    rcases h.1.2 with ⟨h1, _⟩ | ⟨g', cap', cur, h1, _, hgg, _⟩
    · cases h1
    · cases h1; exact frozen_of_heap hgg
  obtain ⟨g1, _, e1, hL, _, _, o1, s1⟩ := Own.set h (j := t * 3) (by simp; omega) (.slice none 0 0)
  cases e1
  obtain ⟨g2, _, e2, _, _, _, o2, s2⟩ := Own.set o1 (j := t * 3 + 1) (by simp; omega) (.slice none 0 0)
  cases e2
  obtain ⟨g3, _, e3, _, _, _, o3, s3⟩ := Own.set o2 (j := t * 3 + 2) (by simp; omega) (.int .i64 0)
  cases e3
  rw [set3] at o3
  exact ⟨hL, hfz, o3, (s1.trans s2).trans s3⟩

theorem next_none {L : Nat → Nat} {c : Nat} {w : World} {rb lm lb told : Nat} {tail : List UInt8} {held wrong : Int} {en sh : Bool} (h : RdrAt L c w rb lm lb told [] tail held wrong en sh) (hb : told ≤ 100000000000) :
    Calls Try.prog 19 #[.pointer (some ⟨rb, 0, none⟩)] w fun e w' => e = .returned (.tuple #[.agg #[.slice none 0 0, .slice none 0 0], .int .i64 (standS wrong en sh), .int .i64 (standE wrong en sh)]) ∧ Below w.heap.size w w' := by
  have st0 := Step.of_below (L := L) (below_alloc w (.cells #[.slice none 0 0, .slice none 0 0] 25)) (fun _ => False) 0
  have h := h.step st0 (fun _ x => x.elim)
  obtain ⟨W, hW⟩ : ∃ W, W = w.alloc (.cells #[.slice none 0 0, .slice none 0 0] 25) := ⟨_, rfl⟩
  have rh : W.heap[w.heap.size]? = some (.cells #[.slice none 0 0, .slice none 0 0] 25 (0, 0)) := by rw [hW]; exact heap_alloc_new _ _
  have r0 : W.cell? ⟨w.heap.size, 0, none⟩ = some (.slice none 0 0) := by rw [hW]; simp
  have r1 : W.cell? ⟨w.heap.size, 1, none⟩ = some (.slice none 0 0) := by rw [hW]; simp
  rw [← hW] at h
  have hBW : Below w.heap.size w W := by rw [hW]; exact below_alloc _ _
  have HW := Lib.hid hW
  clear hW st0
  obtain ⟨vq, vb, h0, h1, h2, h3⟩ := h
  rw [List.length_nil, Nat.add_zero] at h2
  obtain ⟨pq, cq, hvq, _, hcq, _⟩ := ownsRow_shape h2.1
  subst hvq
  unfold maxLen at hcq
  have c2 : W.cell? ⟨rb, 2, none⟩ = some (.slice pq told cq) := by rw [cell_of_heap h0]; rfl
  have c3 : W.cell? ⟨rb, 3, none⟩ = some (.int .i64 told) := by rw [cell_of_heap h0]; rfl
  have c6 : W.cell? ⟨rb, 6, none⟩ = some (.int .i64 wrong) := by rw [cell_of_heap h0]; rfl
  have c7 : W.cell? ⟨rb, 7, none⟩ = some (.bool en) := by rw [cell_of_heap h0]; rfl
  have c8 : W.cell? ⟨rb, 8, none⟩ = some (.bool sh) := by rw [cell_of_heap h0]; rfl
  clear h0 h1 h2 h3
  obtain ⟨sS, hS⟩ : ∃ x, x = standS wrong en sh := ⟨_, rfl⟩
  obtain ⟨sE, hE⟩ : ∃ x, x = standE wrong en sh := ⟨_, rfl⟩
  rw [← hS, ← hE]
  have HS := Lib.hid hS
  have HE := Lib.hid hE
  clear hS hE
  go_enter Try.func19, Try.ntmps19
  go_wp2_with fail
  rw [← HW.out]
  generalize hme : w.heap.size = m0 at *
  have HME := Lib.hid hme
  clear hme
  go_quiet (fail)
  go_wp2_with fail
  refine (stands_calls (w := W.drewN nq) c6 c7 c8).mono ?_; rintro e w1 ⟨rfl, k1, rfl⟩
  rw [← HS.out, ← HE.out]
  have r0 : ((W.drewN nq).drewN k1).cell? ⟨m0, 0, none⟩ = some (.slice none 0 0) := r0
  have r1 : ((W.drewN nq).drewN k1).cell? ⟨m0, 1, none⟩ = some (.slice none 0 0) := r1
  have t0 : ((W.drewN nq).drewN k1).frozen? ⟨m0, 0, none⟩ = false := frozen_of_heap (w := W) rh
  have t1 : ((W.drewN nq).drewN k1).frozen? ⟨m0, 1, none⟩ = false := frozen_of_heap (w := W) rh
  have hBW2 : Below m0 w ((W.drewN nq).drewN k1) := hBW.trans ⟨rfl, rfl, rfl, Nat.le_refl _, fun _ _ => rfl⟩
  have hm0 : m0 < ((W.drewN nq).drewN k1).heap.size := lt_of_heap (w := W) rh
  have rh2 : ((W.drewN nq).drewN k1).heap[m0]? = some (.cells #[.slice none 0 0, .slice none 0 0] 25 (0, 0)) := rh
  generalize (W.drewN nq).drewN k1 = W2 at *
  have HRH := Lib.hid rh2
  clear rh rh2
  go_wp2_with fail
  have x1 := Mem.heap_setCell_same (o := 1) (Mem.heap_setCell_same (o := 0) HRH.out (.slice none 0 0)) (.slice none 0 0)
  have y0 : ((W2.setCell ⟨m0, 0, none⟩ (.slice none 0 0)).setCell ⟨m0, 1, none⟩ (.slice none 0 0)).cell? ⟨m0, 0, none⟩ = some (.slice none 0 0) := by rw [cell_of_heap x1]; rfl
  have y1 : ((W2.setCell ⟨m0, 0, none⟩ (.slice none 0 0)).setCell ⟨m0, 1, none⟩ (.slice none 0 0)).cell? ⟨m0, 1, none⟩ = some (.slice none 0 0) := by rw [cell_of_heap x1]; rfl
  refine bodyPost_ret (v := .tuple #[.agg #[.slice none 0 0, .slice none 0 0], .int .i64 sS, .int .i64 sE]) (by simp [results, Try.results19, go_sem, y0, y1]) rfl ⟨rfl, by rw [HME.out]; exact (hBW2.setCell (Nat.le_refl _) _).setCell (Nat.le_refl _) _⟩

set_option maxHeartbeats 1000000 in
theorem next_some {L : Nat → Nat} {c : Nat} {w : World} {rb lm lb told : Nat} {m : Msg} {Q : List Msg} {tail : List UInt8} {held wrong : Int} {en sh : Bool} (h : RdrAt L c w rb lm lb told (m :: Q) tail held wrong en sh) (hb : told + Q.length ≤ 100000000000)
    (hm : MsgAt L w m) (hh : -1000000000000 ≤ held ∧ held ≤ 1000000000000) (hs : m.size ≤ 20000000000) :
    Calls Try.prog 19 #[.pointer (some ⟨rb, 0, none⟩)] w fun e w' => e = .returned (.tuple #[.agg #[m.vm, m.vb], .int .i64 2, .int .i64 0]) ∧ ∃ L' told', Step (Rc c) L w L' w' ∧ RdrAt L' c w' rb lm lb told' Q tail (held - m.size) wrong en sh ∧ told' + Q.length ≤ told + (Q.length + 1) := by
  have st0 := Step.of_below (L := L) (below_alloc w (.cells #[.slice none 0 0, .slice none 0 0] 25)) (fun _ => False) (c + 4)
  have h := h.step st0 (fun _ x => x.elim)
  have hm := hm.step st0 (fun x => x) (fun x => x)
  obtain ⟨W, hW⟩ : ∃ W, W = w.alloc (.cells #[.slice none 0 0, .slice none 0 0] 25) := ⟨_, rfl⟩
  have rh : W.heap[w.heap.size]? = some (.cells #[.slice none 0 0, .slice none 0 0] 25 (0, 0)) := by rw [hW]; exact heap_alloc_new _ _
  have rl : ext L w.heap.size (c + 4) w.heap.size = c + 4 := ext_new (Nat.le_refl _)
  rw [← hW] at h hm st0
  generalize ext L w.heap.size (c + 4) = L0 at *
  have HW := Lib.hid hW
  clear hW
  obtain ⟨vq, vb, h0, h1, h2, h3⟩ := h
  obtain ⟨pq, cq, hvq, _, _, _, hc⟩ := ownsRow_shape h2.1
  subst hvq
  have c2 : W.cell? ⟨rb, 2, none⟩ = some (.slice pq (told + (m :: Q).length) cq) := by rw [cell_of_heap h0]; rfl
  have c3 : W.cell? ⟨rb, 3, none⟩ = some (.int .i64 told) := by rw [cell_of_heap h0]; rfl
  have hzl : (zs told).length = told * 3 := by simp [zs]
  obtain ⟨g, hg, _, x0⟩ := hc (told * 3) m.vm (by rw [List.getElem?_append_right (by omega), hzl]; simp [Msg.cells])
  obtain ⟨g', hg', _, x1⟩ := hc (told * 3 + 1) m.vb (by rw [List.getElem?_append_right (by omega), hzl]; simp [Msg.cells])
  obtain ⟨g'', hg'', _, x2⟩ := hc (told * 3 + 2) (.int .i64 m.size) (by rw [List.getElem?_append_right (by omega), hzl]; simp [Msg.cells])
  subst hg
  cases hg'
  cases hg''
  obtain ⟨pm, km, hvm, _⟩ := ownsRow_shape hm.1.1
  obtain ⟨pb, kb, hvb, _⟩ := ownsRow_shape hm.2.1
  rw [hvm] at x0
  rw [hvb] at x1
  have hml : ((m :: Q).length : Int) = Q.length + 1 := by simp
  obtain ⟨ql, hql⟩ : ∃ x, x = (m :: Q).length := ⟨_, rfl⟩
  have hqb : 1 ≤ ql ∧ ql ≤ 100000000001 := by simp at hql; omega
  rw [← hql] at c2
  have HQL := Lib.hid hql
  obtain ⟨sz, hsz⟩ : ∃ x, x = m.size := ⟨_, rfl⟩
  rw [← hsz] at x2 hs
  have HSZ := Lib.hid hsz
  clear hsz hql hml
  have H0 := Lib.hid h0
  have H2 := Lib.hid h2
  have H3 := Lib.hid h3
  have HC := Lib.hid hc
  clear h0 h2 h3 hc
  go_enter Try.func19, Try.ntmps19
  go_wp2_with fail
  rw [← HW.out]
  generalize hme : w.heap.size = m0 at *
  have HME := Lib.hid hme
  clear hme
  go_quiet (fail)
  go_wp2_with fail
  have hrb : rb < W.heap.size := World.block_lt_of_cell? W _ c2
  have hgl : g < W.heap.size := World.block_lt_of_cell? W _ x0
  have hF : ∀ (w' : World) (o : Obj), (∃ n, w' = W.drewN n) → ((w'.alloc o).cell? ⟨rb, 2, none⟩ = some (.slice (some ⟨g, 0, none⟩) (told + ql) cq) ∧ (w'.alloc o).cell? ⟨rb, 3, none⟩ = some (.int .i64 told) ∧ (w'.alloc o).cell? ⟨g, told * 3, none⟩ = some (.slice pm m.ms.length km) ∧ (w'.alloc o).cell? ⟨g, told * 3 + 1, none⟩ = some (.slice pb m.bd.length kb) ∧ (w'.alloc o).cell? ⟨g, told * 3 + 2, none⟩ = some (.int .i64 sz)) := by
    rintro w' o ⟨n, rfl⟩
    exact ⟨(World.cell?_alloc_lt _ _ _ hrb).trans c2, (World.cell?_alloc_lt _ _ _ hrb).trans c3, (World.cell?_alloc_lt _ _ _ hgl).trans x0, (World.cell?_alloc_lt _ _ _ hgl).trans x1, (World.cell?_alloc_lt _ _ _ hgl).trans x2⟩
  refine Late.region (fun w' => w'.cell? ⟨rb, 2, none⟩ = some (.slice (some ⟨g, 0, none⟩) (told + ql) cq) ∧ w'.cell? ⟨rb, 3, none⟩ = some (.int .i64 told) ∧ w'.cell? ⟨g, told * 3, none⟩ = some (.slice pm m.ms.length km) ∧ w'.cell? ⟨g, told * 3 + 1, none⟩ = some (.slice pb m.bd.length kb) ∧ w'.cell? ⟨g, told * 3 + 2, none⟩ = some (.int .i64 sz)) (fun _ => false) (by kernel_rfl) ?_
  refine Late.take (i := 0) (v := ?_) rfl (by kernel_rfl) (by kernel_rfl) (by kernel_rfl) (by kernel_rfl) (fun _ _ _ h => h) (Or.inl ⟨by kernel_rfl, ?_⟩) ⟨c2, c3, x0, x1, x2⟩ ?_
  rotate_left
  · intro w' hS
    obtain ⟨s1, s2, s3, s4, s5⟩ := hS
    go_simp
    rfl
  refine Late.take (i := 1) (v := ?_) rfl (by kernel_rfl) (by kernel_rfl) (by kernel_rfl) (by kernel_rfl) (fun _ _ _ h => h) (Or.inl ⟨by kernel_rfl, ?_⟩) ⟨c2, c3, x0, x1, x2⟩ ?_
  rotate_left
  · intro w' hS
    obtain ⟨s1, s2, s3, s4, s5⟩ := hS
    go_simp
    rfl
  refine Late.take (i := 2) (v := ?_) rfl (by kernel_rfl) (by kernel_rfl) (by kernel_rfl) (by kernel_rfl) (fun _ _ _ h => h) (Or.inl ⟨by kernel_rfl, ?_⟩) ⟨c2, c3, x0, x1, x2⟩ ?_
  rotate_left
  · intro w' hS
    obtain ⟨s1, s2, s3, s4, s5⟩ := hS
    go_simp
    rfl
  refine Late.take (i := 3) (v := ?_) rfl (by kernel_rfl) (by kernel_rfl) (by kernel_rfl) (by kernel_rfl) (fun _ _ _ h => h) (Or.inl ⟨by kernel_rfl, ?_⟩) ⟨c2, c3, x0, x1, x2⟩ ?_
  rotate_left
  · intro w' hS
    obtain ⟨s1, s2, s3, s4, s5⟩ := hS
    go_simp
    rfl
  refine Late.take (i := 4) (v := ?_) rfl (by kernel_rfl) (by kernel_rfl) (by kernel_rfl) (by kernel_rfl) (fun _ _ _ h => h) (Or.inl ⟨by kernel_rfl, ?_⟩) ⟨c2, c3, x0, x1, x2⟩ ?_
  rotate_left
  · intro w' hS
    obtain ⟨s1, s2, s3, s4, s5⟩ := hS
    go_simp
    rfl
  refine Late.take (i := 5) (v := ?_) rfl (by kernel_rfl) (by kernel_rfl) (by kernel_rfl) (by kernel_rfl) (fun _ _ _ h => h) (Or.inl ⟨by kernel_rfl, ?_⟩) ⟨c2, c3, x0, x1, x2⟩ ?_
  rotate_left
  · intro w' hS
    obtain ⟨s1, s2, s3, s4, s5⟩ := hS
    go_simp
    rfl
  refine Late.take (i := 6) (v := ?_) rfl (by kernel_rfl) (by kernel_rfl) (by kernel_rfl) (by kernel_rfl) (fun _ _ _ h => h) (Or.inl ⟨by kernel_rfl, ?_⟩) ⟨c2, c3, x0, x1, x2⟩ ?_
  rotate_left
  · intro w' hS
    obtain ⟨s1, s2, s3, s4, s5⟩ := hS
    go_simp
    rfl
  refine Late.take (i := 7) (v := ?_) rfl (by kernel_rfl) (by kernel_rfl) (by kernel_rfl) (by kernel_rfl) (fun _ _ _ h => h) (Or.inl ⟨by kernel_rfl, ?_⟩) ⟨c2, c3, x0, x1, x2⟩ ?_
  rotate_left
  · intro w' hS
    obtain ⟨s1, s2, s3, s4, s5⟩ := hS
    go_simp
    rfl
  refine Late.take (i := 8) (v := ?_) rfl (by kernel_rfl) (by kernel_rfl) (by kernel_rfl) (by kernel_rfl) (fun _ _ _ h => h) (Or.inl ⟨by kernel_rfl, ?_⟩) ⟨c2, c3, x0, x1, x2⟩ ?_
  rotate_left
  · intro w' hS
    obtain ⟨s1, s2, s3, s4, s5⟩ := hS
    go_simp
    rfl
  refine Late.take (i := 9) (v := ?_) rfl (by kernel_rfl) (by kernel_rfl) (by kernel_rfl) (by kernel_rfl) (fun _ _ _ h => h) (Or.inl ⟨by kernel_rfl, ?_⟩) ⟨c2, c3, x0, x1, x2⟩ ?_
  rotate_left
  · intro w' hS
    obtain ⟨s1, s2, s3, s4, s5⟩ := hS
    go_simp
    rfl
  refine Late.one (i := 10) (by kernel_rfl) rfl (fun K hK => ?_)
  go_simp
  refine hK _ _ (fun _ => hF _ _ ⟨nq + 1, rfl⟩) ?_
  clear hK K
  have sA : Step (fun _ => False) L0 W (ext L0 W.heap.size (c + 3)) ((W.drewN (nq + 1)).alloc (.cells #[.slice none 0 0, .slice none 0 0, .int .i64 0] 75)) :=
    Step.of_below ((below_drewN W (nq + 1)).trans (below_alloc (W.drewN (nq + 1)) _)) _ (c + 3)
  have ah : ((W.drewN (nq + 1)).alloc (.cells #[.slice none 0 0, .slice none 0 0, .int .i64 0] 75)).heap[W.heap.size]? = some (.cells #[.slice none 0 0, .slice none 0 0, .int .i64 0] 75 (0, 0)) := heap_alloc_new (W.drewN (nq + 1)) _
  have aL : ext L0 W.heap.size (c + 3) W.heap.size = c + 3 := ext_new (Nat.le_refl _)
  obtain ⟨e2, e3, e4, e5, e6⟩ := hF (W.drewN (nq + 1)) (.cells #[.slice none 0 0, .slice none 0 0, .int .i64 0] 75) ⟨nq + 1, rfl⟩
  have hwW : w.heap.size ≤ W.heap.size := st0.size
  have hxr : W.heap.size ≠ rb := by omega
  have hxg : W.heap.size ≠ g := by omega
  generalize (W.drewN (nq + 1)).alloc (.cells #[.slice none 0 0, .slice none 0 0, .int .i64 0] 75) = A at *
  generalize ext L0 W.heap.size (c + 3) = LA at *
  have SA := st0.trans sA
  have a0 : A.cell? ⟨W.heap.size, 0, none⟩ = some (.slice none 0 0) := by rw [cell_of_heap ah]; rfl
  have a1 : A.cell? ⟨W.heap.size, 1, none⟩ = some (.slice none 0 0) := by rw [cell_of_heap ah]; rfl
  have a2 : A.cell? ⟨W.heap.size, 2, none⟩ = some (.int .i64 0) := by rw [cell_of_heap ah]; rfl
  have af : ∀ j, A.frozen? ⟨W.heap.size, j, none⟩ = false := fun j => frozen_of_heap ah
  have af0 := af 0
  have af1 := af 1
  have af2 := af 2
  obtain ⟨s1, b1⟩ := Step.store (j := 0) (v := .slice pm m.ms.length km) ah aL
  obtain ⟨s2, b2⟩ := Step.store (j := 1) (v := .slice pb m.bd.length kb) b1 aL
  obtain ⟨s3, b3⟩ := Step.store (j := 2) (v := .int .i64 sz) b2 aL
  have sW := ((sA.mono (D := (· = c + 3)) (fun _ x => x.elim)).trans s1).trans (s2.trans s3)
  have SW := ((SA.setNew (j := 0) (v := .slice pm m.ms.length km) hwW).setNew (j := 1) (v := .slice pb m.bd.length kb) hwW).setNew (j := 2) (v := .int .i64 sz) hwW
  have hW2 : ∀ p u, p.block ≠ W.heap.size → A.cell? p = some u → (((A.setCell ⟨W.heap.size, 0, none⟩ (.slice pm m.ms.length km)).setCell ⟨W.heap.size, 1, none⟩ (.slice pb m.bd.length kb)).setCell ⟨W.heap.size, 2, none⟩ (.int .i64 sz)).cell? p = some u := by
    intro p u hp hu
    rw [World.cell?_of_block (Below.heap_setCell _ _ _ _ hp), World.cell?_of_block (Below.heap_setCell _ _ _ _ hp), World.cell?_of_block (Below.heap_setCell _ _ _ _ hp)]
    exact hu
  have k0 := sW.heap H0.out (by rw [h1]; omega)
  have k1 : LA rb = c := (sW.col rb hrb).trans h1
  have k2 := H2.out.step sW (by omega)
  have k3 := H3.out.step sW (by omega)
  have krh := sW.heap rh (by rw [rl]; omega)
  have krl : LA m0 = c + 4 := (sW.col m0 (lt_of_heap rh)).trans rl
  have e2' := hW2 ⟨rb, 2, none⟩ _ (Ne.symm hxr) e2
  have e3' := hW2 ⟨rb, 3, none⟩ _ (Ne.symm hxr) e3
  have e4' := hW2 ⟨g, told * 3, none⟩ _ (Ne.symm hxg) e4
  have e5' := hW2 ⟨g, told * 3 + 1, none⟩ _ (Ne.symm hxg) e5
  have e6' := hW2 ⟨g, told * 3 + 2, none⟩ _ (Ne.symm hxg) e6
  refine Late.one (i := 11) (by kernel_rfl) rfl (fun K hK => ?_)
  go_simp
  refine hK _ _ (fun _ => ⟨e2', e3', e4', e5', e6'⟩) ?_
  clear hK K hF c2 c3 x0 x1 x2 a0 a1 a2 af af0 af1 af2 s1 s2 s3 b1 b2 sA SA e2 e3 e4 e5 e6 ah
  refine Late.done (by kernel_rfl) ?_ _
  generalize ((A.setCell ⟨W.heap.size, 0, none⟩ (.slice pm m.ms.length km)).setCell ⟨W.heap.size, 1, none⟩ (.slice pb m.bd.length kb)).setCell ⟨W.heap.size, 2, none⟩ (.int .i64 sz) = W2 at *
  generalize W.heap.size = xb at *
  go_wp2_with fail
  have hk2 : Own LA (c + 1) W2 75 3 (.slice (some ⟨g, 0, none⟩) (told + (m :: Q).length) cq) (told + (m :: Q).length) (zs told ++ (m.vm :: m.vb :: .int .i64 m.size :: (Q.map Msg.cells).flatten)) := k2
  obtain ⟨hLg, hfz, o3, s4⟩ := Own.zero3 hk2
  have f3 := hfz (told * 3)
  have f4 := hfz (told * 3 + 1)
  have f5 := hfz (told * 3 + 2)
  have hrg : rb ≠ g := by intro e; rw [← e, k1] at hLg; omega
  refine Late.region (fun w' => w'.cell? ⟨rb, 2, none⟩ = some (.slice (some ⟨g, 0, none⟩) (told + ql) cq) ∧ w'.cell? ⟨rb, 3, none⟩ = some (.int .i64 told)) (fun j => decide (9 < j)) (by kernel_rfl) ?_
  refine Late.take (i := 0) (v := ?_) rfl (by kernel_rfl) (by kernel_rfl) (by kernel_rfl) (by kernel_rfl) (fun _ _ _ h => h) (Or.inl ⟨by kernel_rfl, ?_⟩) ⟨e2', e3'⟩ ?_
  rotate_left
  · intro w' hS
    obtain ⟨s1, s2⟩ := hS
    go_simp
    rfl
  refine Late.take (i := 1) (v := ?_) rfl (by kernel_rfl) (by kernel_rfl) (by kernel_rfl) (by kernel_rfl) (fun _ _ _ h => h) (Or.inl ⟨by kernel_rfl, ?_⟩) ⟨e2', e3'⟩ ?_
  rotate_left
  · intro w' hS
    obtain ⟨s1, s2⟩ := hS
    go_simp
    rfl
  refine Late.take (i := 2) (v := ?_) rfl (by kernel_rfl) (by kernel_rfl) (by kernel_rfl) (by kernel_rfl) (fun _ _ _ h => h) (Or.inl ⟨by kernel_rfl, ?_⟩) ⟨e2', e3'⟩ ?_
  rotate_left
  · intro w' hS
    obtain ⟨s1, s2⟩ := hS
    go_simp
    rfl
  refine Late.take (i := 3) (v := ?_) rfl (by kernel_rfl) (by kernel_rfl) (by kernel_rfl) (by kernel_rfl) (fun _ _ _ h => h) (Or.inl ⟨by kernel_rfl, ?_⟩) ⟨e2', e3'⟩ ?_
  rotate_left
  · intro w' hS
    obtain ⟨s1, s2⟩ := hS
    go_simp
    rfl
  refine Late.take (i := 4) (v := ?_) rfl (by kernel_rfl) (by kernel_rfl) (by kernel_rfl) (by kernel_rfl) (fun _ _ _ h => h) (Or.inl ⟨by kernel_rfl, ?_⟩) ⟨e2', e3'⟩ ?_
  rotate_left
  · intro w' hS
    obtain ⟨s1, s2⟩ := hS
    go_simp
    rfl
  refine Late.take (i := 5) (v := ?_) rfl (by kernel_rfl) (by kernel_rfl) (by kernel_rfl) (by kernel_rfl) (fun _ _ _ h => h) (Or.inl ⟨by kernel_rfl, ?_⟩) ⟨e2', e3'⟩ ?_
  rotate_left
  · intro w' hS
    obtain ⟨s1, s2⟩ := hS
    go_simp
    rfl
  refine Late.take (i := 6) (v := ?_) rfl (by kernel_rfl) (by kernel_rfl) (by kernel_rfl) (by kernel_rfl) (fun _ _ _ h => h) (Or.inl ⟨by kernel_rfl, ?_⟩) ⟨e2', e3'⟩ ?_
  rotate_left
  · intro w' hS
    obtain ⟨s1, s2⟩ := hS
    go_simp
    rfl
  refine Late.take (i := 7) (v := ?_) rfl (by kernel_rfl) (by kernel_rfl) (by kernel_rfl) (by kernel_rfl) (fun _ _ _ h => h) (Or.inl ⟨by kernel_rfl, ?_⟩) ⟨e2', e3'⟩ ?_
  rotate_left
  · intro w' hS
    obtain ⟨s1, s2⟩ := hS
    go_simp
    rfl
  refine Late.take (i := 8) (v := ?_) rfl (by kernel_rfl) (by kernel_rfl) (by kernel_rfl) (by kernel_rfl) (fun _ _ _ h => h) (Or.inl ⟨by kernel_rfl, ?_⟩) ⟨e2', e3'⟩ ?_
  rotate_left
  · intro w' hS
    obtain ⟨s1, s2⟩ := hS
    go_simp
    rfl
  refine Late.take (i := 9) (v := ?_) rfl (by kernel_rfl) (by kernel_rfl) (by kernel_rfl) (by kernel_rfl) (fun _ _ _ h => h) (Or.inl ⟨by kernel_rfl, ?_⟩) ⟨e2', e3'⟩ ?_
  rotate_left
  · intro w' hS
    obtain ⟨s1, s2⟩ := hS
    go_simp
    rfl
  refine Late.one (i := 10) (by kernel_rfl) rfl (fun K hK => ?_)
  have u4 : W2.drew.cell? ⟨g, told * 3, none⟩ = some (.slice pm m.ms.length km) := e4'
  have u5 : W2.drew.cell? ⟨g, told * 3 + 1, none⟩ = some (.slice pb m.bd.length kb) := e5'
  have u6 : W2.drew.cell? ⟨g, told * 3 + 2, none⟩ = some (.int .i64 sz) := e6'
  go_simp
  refine hK _ _ (fun h => by cases h) ?_
  clear hK K u4 u5 u6
  refine Late.done (by kernel_rfl) ?_ _
  have S3 : Step (Rc c) L w LA _ := ((SW.mono (fun _ x => x.elim)).trans (s4.mono (by rintro _ rfl; unfold Rc; omega))).drewN 1
  have r0 := (s4.drewN 1).heap k0 (by rw [k1]; omega)
  have rx := (s4.drewN 1).heap b3 (by rw [aL]; omega)
  have rm := (s4.drewN 1).heap krh (by rw [krl]; omega)
  have r3 := (k3.step s4 (by omega)).drewN 1
  have ro := o3.drewN 1
  change Exit.then _ _ _ _ ((((W2.setCell ⟨g, told * 3, none⟩ (.slice none 0 0)).setCell ⟨g, told * 3 + 1, none⟩ (.slice none 0 0)).setCell ⟨g, told * 3 + 2, none⟩ (.int .i64 0)).drewN 1)
  generalize (((W2.setCell ⟨g, told * 3, none⟩ (.slice none 0 0)).setCell ⟨g, told * 3 + 1, none⟩ (.slice none 0 0)).setCell ⟨g, told * 3 + 2, none⟩ (.int .i64 0)).drewN 1 = W3 at *
  clear SW s4 k0 k2 k3 krh e2' e3' e4' e5' e6' f3 f4 f5 o3 hk2 b3 hfz rh hgl
  have HQ : ql = 1 ↔ Q = [] := by
    rw [HQL.out, List.length_cons]
    constructor
    · intro h; exact List.eq_nil_of_length_eq_zero (by omega)
    · intro h; rw [h]; rfl
  have HQ := Lib.hid HQ
  obtain ⟨t1, b1⟩ := Step.store (j := 3) (v := .int .i64 ((told : Int) + 1)) r0 k1
  have d2 : W3.cell? ⟨rb, 2, none⟩ = some (.slice (some ⟨g, 0, none⟩) (told + ql) cq) := by rw [cell_of_heap r0, HQL.out]; rfl
  have d3 : W3.cell? ⟨rb, 3, none⟩ = some (.int .i64 told) := by rw [cell_of_heap r0]; rfl
  have df : W3.frozen? ⟨rb, 3, none⟩ = false := frozen_of_heap r0
  have HR0 := Lib.hid r0
  have g2 : (W3.setCell ⟨rb, 3, none⟩ (.int .i64 ((told : Int) + 1))).cell? ⟨rb, 2, none⟩ = some (.slice (some ⟨g, 0, none⟩) (told + ql) cq) := by rw [cell_of_heap b1, HQL.out]; rfl
  have g3 : (W3.setCell ⟨rb, 3, none⟩ (.int .i64 ((told : Int) + 1))).cell? ⟨rb, 3, none⟩ = some (.int .i64 ((told : Int) + 1)) := by rw [cell_of_heap b1]; rfl
  clear r0
  go_upto_region 5 with fail
  have S4 := S3.trans (t1.mono (D := Rc c) (by rintro _ rfl; unfold Rc; omega))
  have rx4 := t1.heap rx (by rw [aL]; omega)
  have rm4 := t1.heap rm (by rw [krl]; omega)
  have ro4 := ro.step t1 (by omega)
  have r34 := r3.step t1 (by omega)
  generalize W3.setCell ⟨rb, 3, none⟩ (.int .i64 ((told : Int) + 1)) = W4 at *
  clear S3 rx rm ro r3 t1 d2 d3 df HR0
  by_cases h1q : ql = 1
  · have z1 : ((told : Int) + 1 == (told : Int) + ql) = true := by simp; omega
    have z2 : (told : Int) + 1 = (told : Int) + ql := by omega
    have hQ0 : Q = [] := HQ.out.1 h1q
    have HQ0 := Lib.hid hQ0
    have Hz2 := Lib.hid z2
    clear hQ0 z2 h1q
    go_quiet (fail)
    have v2 : (W4.drewN nq).cell? ⟨rb, 2, none⟩ = some (.slice (some ⟨g, 0, none⟩) (told + ql) cq) := g2
    have v3 : (W4.drewN nq).cell? ⟨rb, 3, none⟩ = some (.int .i64 ((told : Int) + 1)) := g3
    have v4 : (W4.drewN nq).frozen? ⟨rb, 2, none⟩ = false := frozen_of_heap (w := W4) b1
    have v5 : (W4.drewN nq).frozen? ⟨rb, 3, none⟩ = false := frozen_of_heap (w := W4) b1
    obtain ⟨t2, y2⟩ := Step.store (j := 2) (v := .slice none 0 0) ((Step.refl (fun _ => False) LA W4).drewN nq |>.heap b1 (fun x => x)) k1
    obtain ⟨t3, y3⟩ := Step.store (j := 3) (v := .int .i64 0) y2 k1
    have S6 := (S4.drewN nq).trans ((t2.trans t3).mono (D := Rc c) (by rintro _ rfl; unfold Rc; omega))
    have q0 := y3
    have q2 : Own LA (c + 1) (((W4.drewN nq).setCell ⟨rb, 2, none⟩ (.slice none 0 0)).setCell ⟨rb, 3, none⟩ (.int .i64 0)) 75 3 (.slice none 0 0) (0 + Q.length) (zs 0 ++ (Q.map Msg.cells).flatten) := by
      rw [HQ0.out]; exact Own.nil _ _ _ _ _
    have q3 := (r34.drewN nq).step (t2.trans t3) (by omega)
    have qx := (t2.trans t3).heap (w := W4.drewN nq) rx4 (by rw [aL]; omega)
    have qm := (t2.trans t3).heap (w := W4.drewN nq) rm4 (by rw [krl]; omega)
    have hTold : 0 + Q.length ≤ told + (Q.length + 1) := by omega
    clear t2 t3 y2 y3 S4 rx4 rm4 ro4 r34 b1 g2 g3
    go_upto_region 7 with fail
    generalize ((W4.drewN nq).setCell ⟨rb, 2, none⟩ (.slice none 0 0)).setCell ⟨rb, 3, none⟩ (.int .i64 0) = W6 at *
    clear v2 v3 v4 v5
    have c5 : W6.drew.cell? ⟨rb, 5, none⟩ = some (.int .i64 held) := by show W6.cell? _ = _; rw [cell_of_heap q0]; rfl
    have cx : W6.drew.cell? ⟨xb, 2, none⟩ = some (.int .i64 sz) := by show W6.cell? _ = _; rw [cell_of_heap qx]; rfl
    have f5 : W6.drew.frozen? ⟨rb, 5, none⟩ = false := frozen_of_heap (w := W6) q0
    have hw1 : IntKind.i64.wrap (held - (sz : Int)) = held - (sz : Int) := IntWalk.i64_in _ (by omega)
    obtain ⟨t5, y5⟩ := Step.store (j := 5) (v := .int .i64 (held - (sz : Int))) ((Step.refl (fun _ => False) LA W6).drew.heap q0 (fun x => x)) k1
    have S7 := (S6.drew).trans (t5.mono (D := Rc c) (by rintro _ rfl; unfold Rc; omega))
    have q2d : Own LA (c + 1) W6.drew 75 3 _ _ _ := q2
    have q3d : Own LA (c + 2) W6.drew 5 1 _ _ _ := q3
    have p2 := q2d.step t5 (by show ¬ c + 1 = c; omega)
    have p3 := q3d.step t5 (by show ¬ c + 2 = c; omega)
    have px := t5.heap (w := W6.drew) qx (by rw [aL]; omega)
    have pm7 := t5.heap (w := W6.drew) qm (by rw [krl]; omega)
    refine Late.region (fun w' => w'.cell? ⟨rb, 5, none⟩ = some (.int .i64 held) ∧ w'.cell? ⟨xb, 2, none⟩ = some (.int .i64 sz)) (fun j => decide (8 < j)) (by kernel_rfl) ?_
    refine Late.take (i := 0) (v := ?_) rfl (by kernel_rfl) (by kernel_rfl) (by kernel_rfl) (by kernel_rfl) (fun _ _ _ h => h) (Or.inl ⟨by kernel_rfl, ?_⟩) ⟨c5, cx⟩ ?_
    rotate_left
    · intro w' hS
      obtain ⟨s1, s2⟩ := hS
      go_simp
      rfl
    refine Late.take (i := 1) (v := ?_) rfl (by kernel_rfl) (by kernel_rfl) (by kernel_rfl) (by kernel_rfl) (fun _ _ _ h => h) (Or.inl ⟨by kernel_rfl, ?_⟩) ⟨c5, cx⟩ ?_
    rotate_left
    · intro w' hS
      obtain ⟨s1, s2⟩ := hS
      go_simp
      rfl
    refine Late.take (i := 2) (v := ?_) rfl (by kernel_rfl) (by kernel_rfl) (by kernel_rfl) (by kernel_rfl) (fun _ _ _ h => h) (Or.inl ⟨by kernel_rfl, ?_⟩) ⟨c5, cx⟩ ?_
    rotate_left
    · intro w' hS
      obtain ⟨s1, s2⟩ := hS
      go_simp
      rfl
    refine Late.take (i := 3) (v := ?_) rfl (by kernel_rfl) (by kernel_rfl) (by kernel_rfl) (by kernel_rfl) (fun _ _ _ h => h) (Or.inl ⟨by kernel_rfl, ?_⟩) ⟨c5, cx⟩ ?_
    rotate_left
    · intro w' hS
      obtain ⟨s1, s2⟩ := hS
      go_simp
      rfl
    refine Late.take (i := 4) (v := ?_) rfl (by kernel_rfl) (by kernel_rfl) (by kernel_rfl) (by kernel_rfl) (fun _ _ _ h => h) (Or.inl ⟨by kernel_rfl, ?_⟩) ⟨c5, cx⟩ ?_
    rotate_left
    · intro w' hS
      obtain ⟨s1, s2⟩ := hS
      go_simp
      rfl
    refine Late.take (i := 5) (v := ?_) rfl (by kernel_rfl) (by kernel_rfl) (by kernel_rfl) (by kernel_rfl) (fun _ _ _ h => h) (Or.inl ⟨by kernel_rfl, ?_⟩) ⟨c5, cx⟩ ?_
    rotate_left
    · intro w' hS
      obtain ⟨s1, s2⟩ := hS
      go_simp
      rfl
    refine Late.take (i := 6) (v := ?_) rfl (by kernel_rfl) (by kernel_rfl) (by kernel_rfl) (by kernel_rfl) (fun _ _ _ h => h) (Or.inl ⟨by kernel_rfl, ?_⟩) ⟨c5, cx⟩ ?_
    rotate_left
    · intro w' hS
      obtain ⟨s1, s2⟩ := hS
      go_simp
      rfl
    refine Late.one (i := 7) (by kernel_rfl) rfl (fun K hK => ?_)
    go_simp
    refine hK _ _ (fun _ => ⟨c5, cx⟩) ?_
    clear hK K
    refine Late.one (i := 8) (by kernel_rfl) rfl (fun K hK => ?_)
    go_simp
    refine hK _ _ (fun _ => ⟨c5, cx⟩) ?_
    clear hK K
    refine Late.one (i := 9) (by kernel_rfl) rfl (fun K hK => ?_)
    go_simp
    refine hK _ _ (fun h => by cases h) ?_
    clear hK K
    refine Late.done (by kernel_rfl) ?_ _
    change Exit.then _ _ _ _ (W6.drew.setCell ⟨rb, 5, none⟩ (.int .i64 (held - (sz : Int))))
    have hR7 : RdrAt LA c (W6.drew.setCell ⟨rb, 5, none⟩ (.int .i64 (held - (sz : Int)))) rb lm lb 0 Q tail (held - (sz : Int)) wrong en sh := ⟨_, _, y5, k1, p2, p3⟩
    clear S6 q0 q2 q3 q2d q3d qx qm t5 y5 p2 p3 c5 cx f5
    generalize W6.drew.setCell ⟨rb, 5, none⟩ (.int .i64 (held - (sz : Int))) = W7 at *
    have x0 : W7.cell? ⟨xb, 0, none⟩ = some (.slice pm m.ms.length km) := by rw [cell_of_heap px]; rfl
    have x1 : W7.cell? ⟨xb, 1, none⟩ = some (.slice pb m.bd.length kb) := by rw [cell_of_heap px]; rfl
    have m0c : W7.cell? ⟨m0, 0, none⟩ = some (.slice none 0 0) := by rw [cell_of_heap pm7]; rfl
    have m1c : W7.cell? ⟨m0, 1, none⟩ = some (.slice none 0 0) := by rw [cell_of_heap pm7]; rfl
    have m0f : W7.frozen? ⟨m0, 0, none⟩ = false := frozen_of_heap pm7
    have m1f : W7.frozen? ⟨m0, 1, none⟩ = false := frozen_of_heap pm7
    go_wp2_with fail
    obtain ⟨u1, a1⟩ := Step.store (j := 0) (v := .slice pm m.ms.length km) pm7 krl
    obtain ⟨u2, a2⟩ := Step.store (j := 1) (v := .slice pb m.bd.length kb) a1 krl
    have y0 : ((W7.setCell ⟨m0, 0, none⟩ (.slice pm m.ms.length km)).setCell ⟨m0, 1, none⟩ (.slice pb m.bd.length kb)).cell? ⟨m0, 0, none⟩ = some (.slice pm m.ms.length km) := by rw [cell_of_heap a2]; rfl
    have y1 : ((W7.setCell ⟨m0, 0, none⟩ (.slice pm m.ms.length km)).setCell ⟨m0, 1, none⟩ (.slice pb m.bd.length kb)).cell? ⟨m0, 1, none⟩ = some (.slice pb m.bd.length kb) := by rw [cell_of_heap a2]; rfl
    have hwm : w.heap.size ≤ m0 := Nat.le_of_eq HME.out
    refine bodyPost_ret (v := .tuple #[.agg #[.slice pm m.ms.length km, .slice pb m.bd.length kb], .int .i64 2, .int .i64 0]) (by simp [results, Try.results19, go_sem, y0, y1]) rfl ⟨by rw [hvm, hvb], LA, 0, (S7.setNew hwm).setNew hwm, ?_, hTold⟩
    have hR8 := hR7.step (u1.trans u2) (by rintro _ rfl h; unfold Rc at h; omega)
    rw [HSZ.out] at hR8
    exact hR8
  · have z1 : ((told : Int) + 1 == (told : Int) + ql) = false := by simp; omega
    go_quiet (fail)
    have S6 := S4.drewN nq
    have q0 : (W4.drewN nq).heap[rb]? = _ := b1
    have q2 : Own LA (c + 1) (W4.drewN nq) 75 3 (.slice (some ⟨g, 0, none⟩) (told + (m :: Q).length) cq) (told + 1 + Q.length) (zs (told + 1) ++ (Q.map Msg.cells).flatten) := by
      have e : told + (m :: Q).length = told + 1 + Q.length := by simp; omega
      have r := ro4.drewN nq
      rw [e] at r ⊢
      exact r
    have q3 := r34.drewN nq
    have qx : (W4.drewN nq).heap[xb]? = _ := rx4
    have qm : (W4.drewN nq).heap[m0]? = _ := rm4
    have hTold : told + 1 + Q.length ≤ told + (Q.length + 1) := by omega
    clear S4 rx4 rm4 ro4 r34 b1 g2 g3
    go_upto_region 7 with fail
    generalize W4.drewN nq = W6 at *
    have c5 : W6.drew.cell? ⟨rb, 5, none⟩ = some (.int .i64 held) := by show W6.cell? _ = _; rw [cell_of_heap q0]; rfl
    have cx : W6.drew.cell? ⟨xb, 2, none⟩ = some (.int .i64 sz) := by show W6.cell? _ = _; rw [cell_of_heap qx]; rfl
    have f5 : W6.drew.frozen? ⟨rb, 5, none⟩ = false := frozen_of_heap (w := W6) q0
    have hw1 : IntKind.i64.wrap (held - (sz : Int)) = held - (sz : Int) := IntWalk.i64_in _ (by omega)
    obtain ⟨t5, y5⟩ := Step.store (j := 5) (v := .int .i64 (held - (sz : Int))) ((Step.refl (fun _ => False) LA W6).drew.heap q0 (fun x => x)) k1
    have S7 := (S6.drew).trans (t5.mono (D := Rc c) (by rintro _ rfl; unfold Rc; omega))
    have q2d : Own LA (c + 1) W6.drew 75 3 _ _ _ := q2
    have q3d : Own LA (c + 2) W6.drew 5 1 _ _ _ := q3
    have p2 := q2d.step t5 (by show ¬ c + 1 = c; omega)
    have p3 := q3d.step t5 (by show ¬ c + 2 = c; omega)
    have px := t5.heap (w := W6.drew) qx (by rw [aL]; omega)
    have pm7 := t5.heap (w := W6.drew) qm (by rw [krl]; omega)
    refine Late.region (fun w' => w'.cell? ⟨rb, 5, none⟩ = some (.int .i64 held) ∧ w'.cell? ⟨xb, 2, none⟩ = some (.int .i64 sz)) (fun j => decide (8 < j)) (by kernel_rfl) ?_
    refine Late.take (i := 0) (v := ?_) rfl (by kernel_rfl) (by kernel_rfl) (by kernel_rfl) (by kernel_rfl) (fun _ _ _ h => h) (Or.inl ⟨by kernel_rfl, ?_⟩) ⟨c5, cx⟩ ?_
    rotate_left
    · intro w' hS
      obtain ⟨s1, s2⟩ := hS
      go_simp
      rfl
    refine Late.take (i := 1) (v := ?_) rfl (by kernel_rfl) (by kernel_rfl) (by kernel_rfl) (by kernel_rfl) (fun _ _ _ h => h) (Or.inl ⟨by kernel_rfl, ?_⟩) ⟨c5, cx⟩ ?_
    rotate_left
    · intro w' hS
      obtain ⟨s1, s2⟩ := hS
      go_simp
      rfl
    refine Late.take (i := 2) (v := ?_) rfl (by kernel_rfl) (by kernel_rfl) (by kernel_rfl) (by kernel_rfl) (fun _ _ _ h => h) (Or.inl ⟨by kernel_rfl, ?_⟩) ⟨c5, cx⟩ ?_
    rotate_left
    · intro w' hS
      obtain ⟨s1, s2⟩ := hS
      go_simp
      rfl
    refine Late.take (i := 3) (v := ?_) rfl (by kernel_rfl) (by kernel_rfl) (by kernel_rfl) (by kernel_rfl) (fun _ _ _ h => h) (Or.inl ⟨by kernel_rfl, ?_⟩) ⟨c5, cx⟩ ?_
    rotate_left
    · intro w' hS
      obtain ⟨s1, s2⟩ := hS
      go_simp
      rfl
    refine Late.take (i := 4) (v := ?_) rfl (by kernel_rfl) (by kernel_rfl) (by kernel_rfl) (by kernel_rfl) (fun _ _ _ h => h) (Or.inl ⟨by kernel_rfl, ?_⟩) ⟨c5, cx⟩ ?_
    rotate_left
    · intro w' hS
      obtain ⟨s1, s2⟩ := hS
      go_simp
      rfl
    refine Late.take (i := 5) (v := ?_) rfl (by kernel_rfl) (by kernel_rfl) (by kernel_rfl) (by kernel_rfl) (fun _ _ _ h => h) (Or.inl ⟨by kernel_rfl, ?_⟩) ⟨c5, cx⟩ ?_
    rotate_left
    · intro w' hS
      obtain ⟨s1, s2⟩ := hS
      go_simp
      rfl
    refine Late.take (i := 6) (v := ?_) rfl (by kernel_rfl) (by kernel_rfl) (by kernel_rfl) (by kernel_rfl) (fun _ _ _ h => h) (Or.inl ⟨by kernel_rfl, ?_⟩) ⟨c5, cx⟩ ?_
    rotate_left
    · intro w' hS
      obtain ⟨s1, s2⟩ := hS
      go_simp
      rfl
    refine Late.one (i := 7) (by kernel_rfl) rfl (fun K hK => ?_)
    go_simp
    refine hK _ _ (fun _ => ⟨c5, cx⟩) ?_
    clear hK K
    refine Late.one (i := 8) (by kernel_rfl) rfl (fun K hK => ?_)
    go_simp
    refine hK _ _ (fun _ => ⟨c5, cx⟩) ?_
    clear hK K
    refine Late.one (i := 9) (by kernel_rfl) rfl (fun K hK => ?_)
    go_simp
    refine hK _ _ (fun h => by cases h) ?_
    clear hK K
    refine Late.done (by kernel_rfl) ?_ _
    change Exit.then _ _ _ _ (W6.drew.setCell ⟨rb, 5, none⟩ (.int .i64 (held - (sz : Int))))
    have hR7 : RdrAt LA c (W6.drew.setCell ⟨rb, 5, none⟩ (.int .i64 (held - (sz : Int)))) rb lm lb (told + 1) Q tail (held - (sz : Int)) wrong en sh := ⟨_, _, y5, k1, p2, p3⟩
    clear S6 q0 q2 q3 q2d q3d qx qm t5 y5 p2 p3 c5 cx f5
    generalize W6.drew.setCell ⟨rb, 5, none⟩ (.int .i64 (held - (sz : Int))) = W7 at *
    have x0 : W7.cell? ⟨xb, 0, none⟩ = some (.slice pm m.ms.length km) := by rw [cell_of_heap px]; rfl
    have x1 : W7.cell? ⟨xb, 1, none⟩ = some (.slice pb m.bd.length kb) := by rw [cell_of_heap px]; rfl
    have m0c : W7.cell? ⟨m0, 0, none⟩ = some (.slice none 0 0) := by rw [cell_of_heap pm7]; rfl
    have m1c : W7.cell? ⟨m0, 1, none⟩ = some (.slice none 0 0) := by rw [cell_of_heap pm7]; rfl
    have m0f : W7.frozen? ⟨m0, 0, none⟩ = false := frozen_of_heap pm7
    have m1f : W7.frozen? ⟨m0, 1, none⟩ = false := frozen_of_heap pm7
    go_wp2_with fail
    obtain ⟨u1, a1⟩ := Step.store (j := 0) (v := .slice pm m.ms.length km) pm7 krl
    obtain ⟨u2, a2⟩ := Step.store (j := 1) (v := .slice pb m.bd.length kb) a1 krl
    have y0 : ((W7.setCell ⟨m0, 0, none⟩ (.slice pm m.ms.length km)).setCell ⟨m0, 1, none⟩ (.slice pb m.bd.length kb)).cell? ⟨m0, 0, none⟩ = some (.slice pm m.ms.length km) := by rw [cell_of_heap a2]; rfl
    have y1 : ((W7.setCell ⟨m0, 0, none⟩ (.slice pm m.ms.length km)).setCell ⟨m0, 1, none⟩ (.slice pb m.bd.length kb)).cell? ⟨m0, 1, none⟩ = some (.slice pb m.bd.length kb) := by rw [cell_of_heap a2]; rfl
    have hwm : w.heap.size ≤ m0 := Nat.le_of_eq HME.out
    refine bodyPost_ret (v := .tuple #[.agg #[.slice pm m.ms.length km, .slice pb m.bd.length kb], .int .i64 2, .int .i64 0]) (by simp [results, Try.results19, go_sem, y0, y1]) rfl ⟨by rw [hvm, hvb], LA, told + 1, (S7.setNew hwm).setNew hwm, ?_, hTold⟩
    have hR8 := hR7.step (u1.trans u2) (by rintro _ rfl h; unfold Rc at h; omega)
    rw [HSZ.out] at hR8
    exact hR8

end Go.Proofs.Ytcebdodogbpglaa.Rdr
