import Derived.Test.YtcllfbhlnjgomaaGreatDoorFp
set_option linter.unusedVariables false
set_option maxRecDepth 100000
/-!
  FIELDS COPIED: the program's ownField. No conditions.
-/
namespace Go.Fld
open Go Go.RowKit Go.Proofs Go.ChangeShapes Go.WideShapes Go.ChangeAt Go.Shelf

theorem info28 : (Tryz.prog.info? 28).map (fun i => (i.zero.map (fun z => z.cells.size), i.size, i.bytes)) = some (some 7, 7, 80) := by kernel_rfl
theorem und23 : Tryz.prog.underlying 23 = some (.slice 28) := by kernel_rfl
theorem info28_parts : ∃ i z, Tryz.prog.info? 28 = some i ∧ i.zero = some z ∧ z.cells.size = 7 ∧ i.size = 7 ∧ i.bytes = 80 := by
  obtain ⟨i, hi, hzz⟩ := Option.map_eq_some_iff.1 info28
  simp only [Prod.mk.injEq] at hzz
  obtain ⟨h1, h2, h3⟩ := hzz
  obtain ⟨z, hz, hs⟩ := Option.map_eq_some_iff.1 h1
  exact ⟨i, z, hi, hz, hs, h2, h3⟩

/-- A field comes back, in memory of its own. -/
def FieldPost (w : World) (g : Fd) (e : Ending) (w' : World) : Prop := ∃ p cap, e = .returned (.agg #[.string g.nm, .bool g.nl, .int .i64 g.k, .int .i64 g.wd, .int .i64 g.id, .int .i64 g.ix, .slice p g.kids.length cap]) ∧
  FdS (fun b => w.heap.size ≤ b) w' g [.string g.nm, .bool g.nl, .int .i64 g.k, .int .i64 g.wd, .int .i64 g.id, .int .i64 g.ix, .slice p g.kids.length cap] ∧ Below w.heap.size w w'

theorem field_result {fn : Func} (hfn : fn.results = #[.cell 2 28]) {W : World} {tmps : Array Value} {rb : Nat} {c0 c1 c2 c3 c4 c5 c6 : Value} (ht : tmps.getD 2 undef = .pointer (some ⟨rb, 0, none⟩)) (hw : RowAt W rb [c0, c1, c2, c3, c4, c5, c6]) :
    (results fn tmps).run Tryz.prog W = .ok (.agg #[c0, c1, c2, c3, c4, c5, c6]) W := by
  have h0 := hw 0 _ rfl
  have h1 := hw 1 _ rfl
  have h2 := hw 2 _ rfl
  have h3 := hw 3 _ rfl
  have h4 := hw 4 _ rfl
  have h5 := hw 5 _ rfl
  have h6 := hw 6 _ rfl
  rw [Array.getD_eq_getD_getElem?] at ht
  simp [results, hfn, go_sem, ht, h0, h1, h2, h3, h4, h5, h6]

/-- Seven cells are laid into a box. -/
def put7 (W : World) (rb : Nat) (c0 c1 c2 c3 c4 c5 c6 : Value) : World :=
  ((((((W.setCell ⟨rb, 0, none⟩ c0).setCell ⟨rb, 1, none⟩ c1).setCell ⟨rb, 2, none⟩ c2).setCell ⟨rb, 3, none⟩ c3).setCell ⟨rb, 4, none⟩ c4).setCell ⟨rb, 5, none⟩ c5).setCell ⟨rb, 6, none⟩ c6
theorem put7_box {W : World} {rb : Nat} {l : List Value} (hl : l.length = 7) (h : BoxN W rb 28 l) (c0 c1 c2 c3 c4 c5 c6 : Value) : BoxN (put7 W rb c0 c1 c2 c3 c4 c5 c6) rb 28 [c0, c1, c2, c3, c4, c5, c6] := by
  have b := ((((((h.set 0 c0).set 1 c1).set 2 c2).set 3 c3).set 4 c4).set 5 c5).set 6 c6
  match l, hl with
  | [_, _, _, _, _, _, _], _ => exact b
theorem put7_other {W : World} {rb k : Nat} (hk : k ≠ rb) (c0 c1 c2 c3 c4 c5 c6 : Value) : (put7 W rb c0 c1 c2 c3 c4 c5 c6).heap[k]? = W.heap[k]? := by
  unfold put7
  rw [Below.heap_setCell _ _ _ k hk, Below.heap_setCell _ _ _ k hk, Below.heap_setCell _ _ _ k hk, Below.heap_setCell _ _ _ k hk, Below.heap_setCell _ _ _ k hk, Below.heap_setCell _ _ _ k hk, Below.heap_setCell _ _ _ k hk]
theorem put7_below {W w : World} {n rb : Nat} (h : Below n w W) (hn : n ≤ rb) (c0 c1 c2 c3 c4 c5 c6 : Value) : Below n w (put7 W rb c0 c1 c2 c3 c4 c5 c6) :=
  ((((((h.setCell (p := ⟨rb, 0, none⟩) hn c0).setCell (p := ⟨rb, 1, none⟩) hn c1).setCell (p := ⟨rb, 2, none⟩) hn c2).setCell (p := ⟨rb, 3, none⟩) hn c3).setCell (p := ⟨rb, 4, none⟩) hn c4).setCell (p := ⟨rb, 5, none⟩) hn c5).setCell (p := ⟨rb, 6, none⟩) hn c6

/-- The field is laid into the result's box and comes back. -/
theorem field_back {fn : Func} (hfn : fn.results = #[.cell 2 28]) {w W : World} {rb : Nat} {l : List Value} (hl : l.length = 7) (hbx : BoxN W rb 28 l) (hw : w.heap.size ≤ rb) (hB : Below w.heap.size w W) {g : Fd} {p : Option Addr} {cap : Nat} {S : Nat → Prop} (hS : ∀ b, S b → rb < b)
    (hg : FdS S W g [.string g.nm, .bool g.nl, .int .i64 g.k, .int .i64 g.wd, .int .i64 g.id, .int .i64 g.ix, .slice p g.kids.length cap]) {tmps : Array Value} (ht : tmps.getD 2 undef = .pointer (some ⟨rb, 0, none⟩)) :
    bodyPost Tryz.prog fn (FieldPost w g) Exit.ret { tmps := tmps, defers := [] } (put7 W rb (.string g.nm) (.bool g.nl) (.int .i64 g.k) (.int .i64 g.wd) (.int .i64 g.id) (.int .i64 g.ix) (.slice p g.kids.length cap)) := by
  refine bodyPost_ret (field_result hfn ht (put7_box hl hbx _ _ _ _ _ _ _).row) rfl ⟨p, cap, rfl, ?_, put7_below hB hw _ _ _ _ _ _ _⟩
  exact hg.keep (fun b hs hlt => ⟨put7_other (by have := hS b hs; omega) _ _ _ _ _ _ _, by have := hS b hs; omega⟩)

set_option maxHeartbeats 1000000 in
theorem own_step {w : World} {f : Fd} {p : Option Addr} {cap : Nat} (hf : FdAt w f [.string f.nm, .bool f.nl, .int .i64 f.k, .int .i64 f.wd, .int .i64 f.id, .int .i64 f.ix, .slice p f.kids.length cap])
    (hsm : f.kids.length ≤ 1000000000000)
    (ih : ∀ g ∈ f.kids, ∀ (w : World) (p : Option Addr) (cap : Nat), FdAt w g [.string g.nm, .bool g.nl, .int .i64 g.k, .int .i64 g.wd, .int .i64 g.id, .int .i64 g.ix, .slice p g.kids.length cap] →
      Calls Tryz.prog 14 #[.agg #[.string g.nm, .bool g.nl, .int .i64 g.k, .int .i64 g.wd, .int .i64 g.id, .int .i64 g.ix, .slice p g.kids.length cap]] w (FieldPost w g)) :
    Calls Tryz.prog 14 #[.agg #[.string f.nm, .bool f.nl, .int .i64 f.k, .int .i64 f.wd, .int .i64 f.id, .int .i64 f.ix, .slice p f.kids.length cap]] w (FieldPost w f) := by
  obtain ⟨i1, z1, hi1, hz1, hzc1, hsz1, hby1⟩ := info28_parts
  obtain ⟨p', cap', hcs, hk, hnm, ik, iw, ii, ix'⟩ := hf.shape
  cases hcs
  obtain ⟨_, _, e, hl, hm, hC⟩ := hk
  cases e
  unfold maxLen at hm
  have HC := Lib.hid hC
  have HI := Lib.hid ih
  clear hf ih hC
  go_enter Tryz.func14, Tryz.ntmps14
  obtain ⟨W, hW⟩ : ∃ W, W = ((w.alloc (.cells #[Value.string f.nm, Value.bool f.nl, Value.int .i64 f.k, Value.int .i64 f.wd, Value.int .i64 f.id, Value.int .i64 f.ix, Value.slice p f.kids.length cap] 28)).alloc (.cells #[Value.string ⟨#[]⟩, Value.bool false, Value.int .i64 0, Value.int .i64 0, Value.int .i64 0, Value.int .i64 0, Value.slice none 0 0] 28)) := ⟨_, rfl⟩
  have a1 : BoxN W w.heap.size 28 [Value.string f.nm, Value.bool f.nl, Value.int .i64 f.k, Value.int .i64 f.wd, Value.int .i64 f.id, Value.int .i64 f.ix, Value.slice p f.kids.length cap] := by
    rw [hW]
    exact (BoxN.new w 28 [Value.string f.nm, Value.bool f.nl, Value.int .i64 f.k, Value.int .i64 f.wd, Value.int .i64 f.id, Value.int .i64 f.ix, Value.slice p f.kids.length cap]).alloc _
  have a2 : BoxN W (w.heap.size + 1) 28 [Value.string ⟨#[]⟩, Value.bool false, Value.int .i64 0, Value.int .i64 0, Value.int .i64 0, Value.int .i64 0, Value.slice none 0 0] := by
    rw [hW]
    have := BoxN.new (w.alloc (.cells #[Value.string f.nm, Value.bool f.nl, Value.int .i64 f.k, Value.int .i64 f.wd, Value.int .i64 f.id, Value.int .i64 f.ix, Value.slice p f.kids.length cap] 28)) 28 [Value.string ⟨#[]⟩, Value.bool false, Value.int .i64 0, Value.int .i64 0, Value.int .i64 0, Value.int .i64 0, Value.slice none 0 0]
    rwa [World.size_alloc] at this
  have hBW : Below w.heap.size w W := by rw [hW]; exact ((Below.refl _ w).alloc (Nat.le_refl _) _).alloc (by simp) _
  have hWs : W.heap.size = w.heap.size + 2 := by rw [hW]; simp
  have A1 := Lib.hid a1
  have A2 := Lib.hid a2
  have HBW := Lib.hid hBW
  have HWS := Lib.hid hWs
  have HW := Lib.hid hW
  clear a1 a2 hBW hWs hW
  go_wp2_with fail
  rw [← HW.out]
  clear HW
  go_loopw [3, 10] (fun l i wr => ∃ (k : Nat) (q : Option Addr) (c : Nat) (css : List (List Value)), k ≤ f.kids.length ∧ l = .slice q k c ∧ i = .int .i64 k ∧ Hid (RowF wr W.heap.size (.slice q k c) (f.kids.take k) css) ∧ Hid (Below W.heap.size W wr)) (fun _ i _ => f.kids.length - (intOf i).toNat)
  case atStart => exact ⟨0, none, 0, [], by omega, rfl, rfl, Lib.hid (RowF.nil _ _), Lib.hid (Below.refl _ _)⟩
  case round =>
    obtain ⟨k, q, c, css, hk, rfl, rfl, HR, HB⟩ := hrel
    have hbw : Below w.heap.size w wr := HBW.out.trans (HB.out.mono HBW.out.size)
    have HBR := Lib.hid hbw
    have B1 := Lib.hid (A1.out.below HB.out A1.out.lt)
    have B2 := Lib.hid (A2.out.below HB.out A2.out.lt)
    have hsz := HB.out.size
    have hlt2 := B2.out.lt
    by_cases hlt : k < f.kids.length
    · obtain ⟨b', o', fq, cap', rfl, e3, c0, c1, c2, c3, c4, c5, c6⟩ := HC.out.seven k hlt
      have E3 := Lib.hid e3
      replace c0 := cell_below hbw c0
      replace c1 := cell_below hbw c1
      replace c2 := cell_below hbw c2
      replace c3 := cell_below hbw c3
      replace c4 := cell_below hbw c4
      replace c5 := cell_below hbw c5
      replace c6 := cell_below hbw c6
      have HIG := Lib.hid (HI.out f.kids[k] (List.getElem_mem hlt))
      have HTK := Lib.hid (List.take_succ_eq_append_getElem hlt)
      clear e3 hbw
      generalize hg : f.kids[k] = g at *
      have HG := Lib.hid hg
      clear hg
      go_wp2_with fail
      obtain ⟨A, hA⟩ : ∃ A, A = wr.alloc (.cells #[Value.string g.nm, Value.bool g.nl, Value.int IntKind.i64 g.k, Value.int IntKind.i64 g.wd, Value.int IntKind.i64 g.id, Value.int IntKind.i64 g.ix, Value.slice fq g.kids.length cap'] 28) := ⟨_, rfl⟩
      have BA : Below wr.heap.size wr A := by rw [hA]; exact (Below.refl _ wr).alloc (Nat.le_refl _) _
      rw [← hA]
      clear hA
      have BAw := HBR.out.trans (BA.mono HBR.out.size)
      refine (HIG.out A fq cap' (E3.out.below BAw)).mono ?_
      rintro e W1 ⟨p1, cap1, rfl, hfd, hb1⟩
      have hb2 : Below wr.heap.size wr W1 := BA.trans (hb1.mono BA.size)
      have hR1 := HR.out.below hb2
      have htk : (f.kids.take k).length = k := by rw [List.length_take]; omega
      have hown1 : W1.ownsRow W.heap.size 28 7 (.slice q k c) k (css.flatMap id) := by have := hR1.own; rwa [htk] at this
      have hasz : wr.heap.size ≤ A.heap.size := BA.size
      have hoff : ∀ j, (Value.slice q k c).ownBlock = some j → j < wr.heap.size := fun j e => (HR.out.own.lt j e).2
      have hfd1 : FdS (fun b => W.heap.size ≤ b ∧ (Value.slice q k c).ownBlock ≠ some b) W1 g _ := hfd.mono (fun b hb => ⟨by omega, fun e => by have := hoff b e; omega⟩)
      have hs1 := hb2.size
      have HR1 := Lib.hid hR1
      have HO1 := Lib.hid hown1
      have HF1 := Lib.hid hfd1
      have HB2 := Lib.hid (HB.out.trans (hb2.mono hsz))
      have HTL := Lib.hid htk
      have hZ := BoxN.new W1 28 [Value.string g.nm, Value.bool g.nl, Value.int IntKind.i64 g.k, Value.int IntKind.i64 g.wd, Value.int IntKind.i64 g.id, Value.int IntKind.i64 g.ix, Value.slice p1 g.kids.length cap1]
      have HZ := Lib.hid hZ
      clear hfd hb1 hb2 hR1 hown1 hfd1 hoff hZ BA BAw htk c0 c1 c2 c3 c4 c5 c6
      go_wp2_with (at_builtin; refine wpList_append_lies _ rfl _ _ 23 rfl W.heap.size 28 i1 z1 7 80 und23 hi1 hz1 hsz1 hby1 hzc1 (by decide) (.slice q k c) k (css.flatMap id) rfl (HO1.out.alloc _) ⟨W1.heap.size, 0, none⟩ 1 1 [Value.string g.nm, Value.bool g.nl, Value.int IntKind.i64 g.k, Value.int IntKind.i64 g.wd, Value.int IntKind.i64 g.id, Value.int IntKind.i64 g.ix, Value.slice p1 g.kids.length cap1] rfl rfl (World.news_of_block HZ.out) (by simp [Value.oneCell']) (by decide) (by unfold maxLen; omega) (by omega) (by simp; omega) (W1.heap.size + 1) (by simp) ?_; intro gg cc w2 hown2 hgrow2 hat2 hlt2)
      refine ⟨⟨k + 1, some ⟨gg, 0, none⟩, cc, css ++ [[Value.string g.nm, Value.bool g.nl, Value.int IntKind.i64 g.k, Value.int IntKind.i64 g.wd, Value.int IntKind.i64 g.id, Value.int IntKind.i64 g.ix, Value.slice p1 g.kids.length cap1]], by omega, rfl, by go_num, Lib.hid ?_, Lib.hid ((HB2.out.alloc HB2.out.size _).grown hgrow2 (by have := HB2.out.size; simp; omega) (fun j e => (HO1.out.lt j e).1))⟩, by simp [intOf]; omega⟩
      rw [HTK.out]
      exact (HR1.out.below ((Below.refl _ W1).alloc (Nat.le_refl _) _)).push (HF1.out.below ((Below.refl _ W1).alloc (Nat.le_refl _) _)) HTL.out hown2 hgrow2 (by rw [World.size_alloc]; exact hat2)
    · have hkl : k = f.kids.length := by omega
      have HKL := Lib.hid hkl
      have r0 := B1.out.row 0 _ rfl
      have r1 := B1.out.row 1 _ rfl
      have r2 := B1.out.row 2 _ rfl
      have r3 := B1.out.row 3 _ rfl
      have r4 := B1.out.row 4 _ rfl
      have r5 := B1.out.row 5 _ rfl
      have r6 := B1.out.row 6 _ rfl
      have x6 := B1.out.frozen 6
      have q0 := B2.out.row 0 _ rfl
      have q1 := B2.out.row 1 _ rfl
      have q2 := B2.out.row 2 _ rfl
      have q3 := B2.out.row 3 _ rfl
      have q4 := B2.out.row 4 _ rfl
      have q5 := B2.out.row 5 _ rfl
      have q6 := B2.out.row 6 _ rfl
      have y0 := B2.out.frozen 0
      have y1 := B2.out.frozen 1
      have y2 := B2.out.frozen 2
      have y3 := B2.out.frozen 3
      have y4 := B2.out.frozen 4
      have y5 := B2.out.frozen 5
      have y6 := B2.out.frozen 6
      clear hkl hbw
      go_wp2_with fail
      have hR := HR.out
      rw [HKL.out, List.take_length] at hR
      have hlist := hR.list
      obtain ⟨hkc, hcm⟩ := hR.room
      rw [HKL.out]
      have hF : FdS (fun b => W.heap.size ≤ b) (wr.setCell ⟨w.heap.size, 6, none⟩ (.slice q f.kids.length c)) f [.string f.nm, .bool f.nl, .int .i64 f.k, .int .i64 f.wd, .int .i64 f.id, .int .i64 f.ix, .slice q f.kids.length c] := by
        have h1 : FdS (fun b => W.heap.size ≤ b) wr f [.string f.nm, .bool f.nl, .int .i64 f.k, .int .i64 f.wd, .int .i64 f.id, .int .i64 f.ix, .slice q f.kids.length c] := by
          cases f with
          | mk nm nl fk wd id ix kids => exact FdS.mk' hnm ik iw ii ix' hkc hcm hlist
        exact h1.keep (fun b hs hlt => ⟨Below.heap_setCell _ _ _ b (by have := HWS.out; show b ≠ w.heap.size; omega), hs⟩)
      exact field_back (fn := Tryz.f14) rfl (l := [_, _, _, _, _, _, _]) rfl (B2.out.other (a := ⟨w.heap.size, 6, none⟩) (by simp) _) (by omega) (HBR.out.setCell (p := ⟨w.heap.size, 6, none⟩) (Nat.le_refl _) _) (S := fun b => W.heap.size ≤ b) (fun b hb => by have := HWS.out; omega) hF rfl

theorem own_calls (f : Fd) (ho : okF f) : ∀ (w : World) (p : Option Addr) (cap : Nat), FdAt w f [.string f.nm, .bool f.nl, .int .i64 f.k, .int .i64 f.wd, .int .i64 f.id, .int .i64 f.ix, .slice p f.kids.length cap] →
    Calls Tryz.prog 14 #[.agg #[.string f.nm, .bool f.nl, .int .i64 f.k, .int .i64 f.wd, .int .i64 f.id, .int .i64 f.ix, .slice p f.kids.length cap]] w (FieldPost w f) := by
  revert ho
  refine fd_ind (P := fun f => okF f → ∀ (w : World) (p : Option Addr) (cap : Nat), FdAt w f [.string f.nm, .bool f.nl, .int .i64 f.k, .int .i64 f.wd, .int .i64 f.id, .int .i64 f.ix, .slice p f.kids.length cap] →
    Calls Tryz.prog 14 #[.agg #[.string f.nm, .bool f.nl, .int .i64 f.k, .int .i64 f.wd, .int .i64 f.id, .int .i64 f.ix, .slice p f.kids.length cap]] w (FieldPost w f)) (fun f ih ho w p cap hf => ?_) f
  obtain ⟨_, hk, hl⟩ := okF_kids ho
  exact own_step hf (by omega) (fun g hg w p cap => ih g hg (okL_mem hl g hg) w p cap)

end Go.Fld
