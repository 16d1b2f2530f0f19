import Derived.Test.YtcllfbhlnjgomaaGreatDoorFt
set_option linter.unusedVariables false
set_option maxRecDepth 100000
/-!
  WHAT AN AGGREGATE COMES TO: the program's Type. No conditions.
-/
namespace Go.Fld
open Go Go.RowKit Go.Proofs Go.ChangeShapes Go.WideShapes Go.ChangeAt Go.Shelf

/-- A field and an error come back. -/
def TypePost (w : World) (r : Fd × Int) (e : Ending) (w' : World) : Prop := ∃ p cap, e = .returned (.tuple #[.agg #[.string r.1.nm, .bool r.1.nl, .int .i64 r.1.k, .int .i64 r.1.wd, .int .i64 r.1.id, .int .i64 r.1.ix, .slice p r.1.kids.length cap], .int .i64 r.2]) ∧
  FdAt w' r.1 [.string r.1.nm, .bool r.1.nl, .int .i64 r.1.k, .int .i64 r.1.wd, .int .i64 r.1.id, .int .i64 r.1.ix, .slice p r.1.kids.length cap] ∧ Below w.heap.size w w'

theorem type_result {fn : Func} (hfn : fn.results = #[.cell 4 28, .tmp 5]) {W : World} {tmps : Array Value} {rb : Nat} {c0 c1 c2 c3 c4 c5 c6 v : Value} (ht : tmps.getD 4 undef = .pointer (some ⟨rb, 0, none⟩)) (hv : tmps.getD 5 undef = v) (hw : RowAt W rb [c0, c1, c2, c3, c4, c5, c6]) :
    (results fn tmps).run Tryz.prog W = .ok (.tuple #[.agg #[c0, c1, c2, c3, c4, c5, c6], v]) W := by
  have h0 := hw 0 _ rfl
  have h1 := hw 1 _ rfl
  have h2 := hw 2 _ rfl
  have h3 := hw 3 _ rfl
  have h4 := hw 4 _ rfl
  have h5 := hw 5 _ rfl
  have h6 := hw 6 _ rfl
  rw [Array.getD_eq_getD_getElem?] at ht hv
  simp [results, hfn, go_sem, ht, hv, h0, h1, h2, h3, h4, h5, h6]

/-- The field is laid into the result's box and comes back with the error. -/
theorem type_back {fn : Func} (hfn : fn.results = #[.cell 4 28, .tmp 5]) {w W : World} {rb : Nat} {l : List Value} (hl : l.length = 7) (hbx : BoxN W rb 28 l) (hw : w.heap.size ≤ rb) (hB : Below w.heap.size w W) {g : Fd} {er : Int} {p : Option Addr} {cap : Nat} {S : Nat → Prop} (hS : ∀ b, S b → b ≠ rb)
    (hg : FdS S W g [.string g.nm, .bool g.nl, .int .i64 g.k, .int .i64 g.wd, .int .i64 g.id, .int .i64 g.ix, .slice p g.kids.length cap]) {tmps : Array Value} (ht : tmps.getD 4 undef = .pointer (some ⟨rb, 0, none⟩)) (hv : tmps.getD 5 undef = .int .i64 er) :
    bodyPost Tryz.prog fn (TypePost w (g, er)) Exit.ret { tmps := tmps, defers := [] } (put7 W rb (.string g.nm) (.bool g.nl) (.int .i64 g.k) (.int .i64 g.wd) (.int .i64 g.id) (.int .i64 g.ix) (.slice p g.kids.length cap)) := by
  refine bodyPost_ret (type_result hfn ht hv (put7_box hl hbx _ _ _ _ _ _ _).row) rfl ⟨p, cap, rfl, ?_, put7_below hB hw _ _ _ _ _ _ _⟩
  exact (hg.keep (T := S) (fun b hs hlt => ⟨put7_other (hS b hs) _ _ _ _ _ _ _, hs⟩)).at
theorem type_back2 {fn : Func} (hfn : fn.results = #[.cell 4 28, .tmp 5]) {w W : World} {rb : Nat} {g : Fd} {er : Int} {p : Option Addr} {cap : Nat}
    (hbx : BoxN W rb 28 [.string g.nm, .bool g.nl, .int .i64 g.k, .int .i64 g.wd, .int .i64 g.id, .int .i64 g.ix, .slice p g.kids.length cap]) (hB : Below w.heap.size w W)
    (hg : FdAt W g [.string g.nm, .bool g.nl, .int .i64 g.k, .int .i64 g.wd, .int .i64 g.id, .int .i64 g.ix, .slice p g.kids.length cap]) {tmps : Array Value} (ht : tmps.getD 4 undef = .pointer (some ⟨rb, 0, none⟩)) (hv : tmps.getD 5 undef = .int .i64 er) :
    bodyPost Tryz.prog fn (TypePost w (g, er)) Exit.ret { tmps := tmps, defers := [] } W :=
  bodyPost_ret (type_result hfn ht hv hbx.row) rfl ⟨p, cap, rfl, hg, hB⟩
theorem plainS {S : Nat → Prop} {W : World} {nm : ByteArray} (hn : nm.size ≤ maxLen) (nl : Bool) {k : Int} (hk : i64B k) : FdS S W (plainF nm nl k) [.string nm, .bool nl, .int .i64 k, .int .i64 0, .int .i64 0, .int .i64 0, .slice none 0 0] := by
  have z : i64B 0 := by unfold i64B; omega
  exact FdS.mk' (kids := []) (p := none) (cap := 0) hn hk z z z (Nat.le_refl _) (by decide) trivial

theorem FdS.named {S : Nat → Prop} {w : World} {g : Fd} {p : Option Addr} {cap : Nat} (h : FdS S w g [.string g.nm, .bool g.nl, .int .i64 g.k, .int .i64 g.wd, .int .i64 g.id, .int .i64 g.ix, .slice p g.kids.length cap]) {nm : ByteArray} (hn : nm.size ≤ maxLen) (nl : Bool) :
    FdS S w (g.named nm nl) [.string nm, .bool nl, .int .i64 g.k, .int .i64 g.wd, .int .i64 g.id, .int .i64 g.ix, .slice p g.kids.length cap] := by
  cases g with
  | mk nm' nl' fk wd id ix kids =>
    simp only [FdS] at h
    obtain ⟨_, j1, j2, j3, j4, p9, c9, e9, h9⟩ := h
    simp only [Fd.named, FdS]
    refine ⟨hn, j1, j2, j3, j4, p9, c9, ?_, h9⟩
    simp only [List.cons.injEq] at e9 ⊢
    exact ⟨trivial, trivial, trivial, trivial, trivial, trivial, e9.2.2.2.2.2.2⟩
theorem FdS.put7 {S : Nat → Prop} {W : World} {g : Fd} {cs : List Value} (h : FdS S W g cs) {rb : Nat} (hS : ∀ b, S b → b ≠ rb) (c0 c1 c2 c3 c4 c5 c6 : Value) : FdS S (put7 W rb c0 c1 c2 c3 c4 c5 c6) g cs :=
  h.keep (fun b hs hlt => ⟨put7_other (hS b hs) _ _ _ _ _ _ _, hs⟩)

set_option maxHeartbeats 4000000 in
theorem type_calls {w : World} {f : Fd} {p : Option Addr} {cap : Nat} (op : Int) (hop : i64B op) (hf : FdAt w f [.string f.nm, .bool f.nl, .int .i64 f.k, .int .i64 f.wd, .int .i64 f.id, .int .i64 f.ix, .slice p f.kids.length cap]) (hS : SaysAt w) :
    Calls Tryz.prog 11 #[.int .i64 op, .agg #[.string f.nm, .bool f.nl, .int .i64 f.k, .int .i64 f.wd, .int .i64 f.id, .int .i64 f.ix, .slice p f.kids.length cap]] w (TypePost w (typeF op f)) := by
  obtain ⟨p', cap', hcs, hk, hnm, ik, iw, ii, ix'⟩ := hf.shape
  cases hcs
  have HF := Lib.hid hf
  have HS := Lib.hid hS
  clear hf hS hk
  obtain ⟨W, hW⟩ : ∃ W, W = (w.alloc (.cells #[.string f.nm, .bool f.nl, .int .i64 f.k, .int .i64 f.wd, .int .i64 f.id, .int .i64 f.ix, .slice p f.kids.length cap] 28)).alloc (.cells #[Value.string ⟨#[]⟩, Value.bool false, Value.int .i64 0, Value.int .i64 0, Value.int .i64 0, Value.int .i64 0, Value.slice none 0 0] 28) := ⟨_, rfl⟩
  have a1 : BoxN W w.heap.size 28 [.string f.nm, .bool f.nl, .int .i64 f.k, .int .i64 f.wd, .int .i64 f.id, .int .i64 f.ix, .slice p f.kids.length cap] := by
    rw [hW]
    exact (BoxN.new w 28 [.string f.nm, .bool f.nl, .int .i64 f.k, .int .i64 f.wd, .int .i64 f.id, .int .i64 f.ix, .slice p f.kids.length cap]).alloc _
  have a2 : BoxN W (w.heap.size + 1) 28 [.string ⟨#[]⟩, .bool false, .int .i64 0, .int .i64 0, .int .i64 0, .int .i64 0, .slice none 0 0] := by
    rw [hW]
    have := BoxN.new (w.alloc (.cells #[.string f.nm, .bool f.nl, .int .i64 f.k, .int .i64 f.wd, .int .i64 f.id, .int .i64 f.ix, .slice p f.kids.length cap] 28)) 28 [.string ⟨#[]⟩, .bool false, .int .i64 0, .int .i64 0, .int .i64 0, .int .i64 0, .slice none 0 0]
    rwa [World.size_alloc] at this
  have hBW : Below w.heap.size w W := by rw [hW]; exact ((Below.refl _ w).alloc (Nat.le_refl _) _).alloc (by simp) _
  have hWs : W.heap.size = w.heap.size + 2 := by rw [hW]; simp
  have A1 := Lib.hid a1
  have A2 := Lib.hid a2
  have HBW := Lib.hid hBW
  have HWS := Lib.hid hWs
  have HW := Lib.hid hW
  clear a1 a2 hBW hWs hW
  obtain ⟨res, hres⟩ : ∃ r, r = typeF op f := ⟨_, rfl⟩
  rw [← hres]
  unfold typeF at hres
  have HR := Lib.hid hres
  clear hres
  go_enter Tryz.func11, Tryz.ntmps11
  go_wp2_with fail
  rw [← HW.out]
  clear HW
  refine (right_calls (HF.out.below HBW.out) (HS.out.below HBW.out)).mono ?_
  rintro e W1 ⟨rfl, hb1⟩
  have HM := Lib.hid (show mayB f = mayB f from rfl)
  obtain ⟨mb, hmb⟩ : ∃ b, b = mayB f := ⟨_, rfl⟩
  rw [← hmb] at HR ⊢
  have HMB := Lib.hid hmb
  have HB1 := Lib.hid (HBW.out.trans (hb1.mono HBW.out.size))
  have B1 := Lib.hid (A1.out.below hb1 A1.out.lt)
  have B2 := Lib.hid (A2.out.below hb1 A2.out.lt)
  clear hmb hb1 HM
  have hl1 := B2.out.lt
  have hl10 := B1.out.lt
  have r0 := B1.out.row 0 _ rfl
  have r1 := B1.out.row 1 _ rfl
  have r2 := B1.out.row 2 _ rfl
  have r3 := B1.out.row 3 _ rfl
  have r4 := B1.out.row 4 _ rfl
  have r5 := B1.out.row 5 _ rfl
  have r6 := B1.out.row 6 _ rfl
  have q0 := B2.out.row 0 _ rfl
  have q1 := B2.out.row 1 _ rfl
  have q2 := B2.out.row 2 _ rfl
  have q3 := B2.out.row 3 _ rfl
  have q4 := B2.out.row 4 _ rfl
  have q5 := B2.out.row 5 _ rfl
  have q6 := B2.out.row 6 _ rfl
  have y0 := B2.out.frozen 0
  have y1 := B2.out.frozen 1
  have y2 := B2.out.frozen 2
  have y3 := B2.out.frozen 3
  have y4 := B2.out.frozen 4
  have y5 := B2.out.frozen 5
  have y6 := B2.out.frozen 6
  cases mb with
  | false =>
    have e : res = (noF, 5) := by rw [HR.out, if_pos rfl]
    have HE := Lib.hid e
    clear e
    go_wp2_with fail
    rw [HE.out]
    exact type_back (fn := Tryz.f11) (g := noF) rfl (l := [_, _, _, _, _, _, _]) rfl B2.out (by omega) HB1.out (S := fun _ => False) (fun b h => h.elim) (plainS (nm := ⟨#[]⟩) (by decide) false (k := 0) (by unfold i64B; omega)) rfl rfl
  | true =>
  replace HR := Lib.hid (show _ from by have := HR.out; rw [if_neg (by decide)] at this; exact this)
  go_wp2_with fail
  refine (bare_calls f (okF_of_may (by rw [← HMB.out])) W1 p cap (HF.out.below HB1.out)).mono ?_
  rintro e W2 ⟨bp, bc, rfl, hfd, hb2⟩
  have hnme := bareF_nm f
  obtain ⟨g, hg⟩ : ∃ g, g = bareF f := ⟨_, rfl⟩
  rw [← hg] at hfd hnme HR ⊢
  obtain ⟨gp, gcap, hgc, hgk, hgnm, gik, giw, gii, gix⟩ := hfd.at.shape
  cases hgc
  have HG := Lib.hid hg
  have HFD := Lib.hid hfd
  have HB2 := Lib.hid (HB1.out.trans (hb2.mono HB1.out.size))
  have C1 := Lib.hid (B1.out.below hb2 B1.out.lt)
  have C2 := Lib.hid (B2.out.below hb2 B2.out.lt)
  have HGNM := Lib.hid hnme
  have hs2 := hb2.size
  clear hg hfd hb2 hnme hgk r0 r1 r2 r3 r4 r5 r6 q0 q1 q2 q3 q4 q5 q6 y0 y1 y2 y3 y4 y5 y6
  have hl2 := C2.out.lt
  have hl20 := C1.out.lt
  have r0 := C1.out.row 0 _ rfl
  have r1 := C1.out.row 1 _ rfl
  have r2 := C1.out.row 2 _ rfl
  have r3 := C1.out.row 3 _ rfl
  have r4 := C1.out.row 4 _ rfl
  have r5 := C1.out.row 5 _ rfl
  have r6 := C1.out.row 6 _ rfl
  have q0 := C2.out.row 0 _ rfl
  have q1 := C2.out.row 1 _ rfl
  have q2 := C2.out.row 2 _ rfl
  have q3 := C2.out.row 3 _ rfl
  have q4 := C2.out.row 4 _ rfl
  have q5 := C2.out.row 5 _ rfl
  have q6 := C2.out.row 6 _ rfl
  have y0 := C2.out.frozen 0
  have y1 := C2.out.frozen 1
  have y2 := C2.out.frozen 2
  have y3 := C2.out.frozen 3
  have y4 := C2.out.frozen 4
  have y5 := C2.out.frozen 5
  have y6 := C2.out.frozen 6
  have hnn := name_of_may (f := f) (by rw [← HMB.out])
  have HNN := Lib.hid hnn
  clear hnn
  unfold i64B at hop gik
  by_cases o1 : op = 1 ∨ op = 2
  · have e : res = (plainF f.nm false 6, 0) := by rw [HR.out, if_pos o1]
    have HE := Lib.hid e
    clear e HR
    rcases o1 with rfl | rfl <;>
    (go_wp2_with fail
     rw [HE.out]
     refine type_back2 (fn := Tryz.f11) (g := plainF f.nm false 6) (rb := w.heap.size + 1) (p := none) (cap := 0) rfl (((put7_box (l := [_, _, _, _, _, _, _]) rfl C2.out _ _ _ _ _ _ _).alloc _).alloc _) (((put7_below HB2.out (by omega) _ _ _ _ _ _ _).alloc (by have := HB2.out.size; simp [put7]; omega) _).alloc (by have := HB2.out.size; simp [put7]; omega) _) (plainS (S := fun _ => True) hnm false (by unfold i64B; omega)).at rfl rfl)
  have HO1 := Lib.hid o1
  have n1 : (op == 1) = false := by rw [beq_eq_false_iff_ne]; exact fun e => o1 (.inl e)
  have n2 : (op == 2) = false := by rw [beq_eq_false_iff_ne]; exact fun e => o1 (.inr e)
  replace HR := Lib.hid (show _ from by have := HR.out; rw [if_neg o1] at this; exact this)
  clear o1
  by_cases o3 : op = 3
  · replace HR := Lib.hid (show _ from by have := HR.out; rw [if_pos o3] at this; exact this)
    subst o3
    clear n1 n2
    by_cases ka : 3 ≤ g.k ∧ g.k ≤ 6
    · have e : res = (plainF f.nm true 6, 0) := by rw [HR.out, if_pos ka]
      have HE := Lib.hid e
      clear e HR
      go_wp2_with fail
      obtain ⟨Y, hY⟩ : ∃ Y, Y = (W2.alloc (.cells #[Value.string g.nm, Value.bool g.nl, Value.int IntKind.i64 g.k, Value.int IntKind.i64 g.wd, Value.int IntKind.i64 g.id, Value.int IntKind.i64 g.ix, Value.slice bp g.kids.length bc] 28)).alloc (.cells #[Value.string f.nm, Value.bool true, Value.int .i64 6, Value.int .i64 0, Value.int .i64 0, Value.int .i64 0, Value.slice none 0 0] 28) := ⟨_, rfl⟩
      have oY : BoxN Y (W2.heap.size + 1) 28 [Value.string f.nm, Value.bool true, Value.int .i64 6, Value.int .i64 0, Value.int .i64 0, Value.int .i64 0, Value.slice none 0 0] := by
        rw [hY]
        have := BoxN.new (W2.alloc (.cells #[Value.string g.nm, Value.bool g.nl, Value.int IntKind.i64 g.k, Value.int IntKind.i64 g.wd, Value.int IntKind.i64 g.id, Value.int IntKind.i64 g.ix, Value.slice bp g.kids.length bc] 28)) 28 [Value.string f.nm, Value.bool true, Value.int .i64 6, Value.int .i64 0, Value.int .i64 0, Value.int .i64 0, Value.slice none 0 0]
        rwa [World.size_alloc] at this
      have hBY : Below W2.heap.size W2 Y := by rw [hY]; exact ((Below.refl _ W2).alloc (Nat.le_refl _) _).alloc (by simp) _
      have hBYw : Below w.heap.size w Y := HB2.out.trans (hBY.mono HB2.out.size)
      rw [← hY]
      clear hY r0 r1 r2 r3 r4 r5 r6 q0 q1 q2 q3 q4 q5 q6 y0 y1 y2 y3 y4 y5 y6
      refine (right_calls (f := plainF f.nm true 6) (p := none) (cap := 0) ((plainS (S := fun _ => True) hnm true (by unfold i64B; omega)).at) (HS.out.below hBYw)).mono ?_
      rintro e W3 ⟨rfl, hb3⟩
      have HB3 := Lib.hid (hBYw.trans (hb3.mono hBYw.size))
      have hBW3 : Below W2.heap.size W2 W3 := hBY.trans (hb3.mono hBY.size)
      have D2 := Lib.hid (C2.out.below hBW3 C2.out.lt)
      have OY := Lib.hid (oY.below hb3 oY.lt)
      have HBW3 := Lib.hid hBW3
      clear hBY hBYw hb3 oY hBW3
      have hl3 := D2.out.lt
      have hl4 := OY.out.lt
      have r0 := OY.out.row 0 _ rfl
      have r1 := OY.out.row 1 _ rfl
      have r2 := OY.out.row 2 _ rfl
      have r3 := OY.out.row 3 _ rfl
      have r4 := OY.out.row 4 _ rfl
      have r5 := OY.out.row 5 _ rfl
      have r6 := OY.out.row 6 _ rfl
      have q0 := D2.out.row 0 _ rfl
      have q1 := D2.out.row 1 _ rfl
      have q2 := D2.out.row 2 _ rfl
      have q3 := D2.out.row 3 _ rfl
      have q4 := D2.out.row 4 _ rfl
      have q5 := D2.out.row 5 _ rfl
      have q6 := D2.out.row 6 _ rfl
      have y0 := D2.out.frozen 0
      have y1 := D2.out.frozen 1
      have y2 := D2.out.frozen 2
      have y3 := D2.out.frozen 3
      have y4 := D2.out.frozen 4
      have y5 := D2.out.frozen 5
      have y6 := D2.out.frozen 6
      rw [may_plain HNN.out true (by decide) (by decide)]
      go_wp2_with fail
      rw [HE.out]
      exact type_back2 (fn := Tryz.f11) (g := plainF f.nm true 6) (rb := w.heap.size + 1) (p := none) (cap := 0) rfl (put7_box (l := [_, _, _, _, _, _, _]) rfl D2.out _ _ _ _ _ _ _) (put7_below HB3.out (by omega) _ _ _ _ _ _ _) ((plainS (S := fun _ => True) hnm true (by unfold i64B; omega)).at) rfl rfl
    by_cases kb : 7 ≤ g.k ∧ g.k ≤ 10
    · have e : res = (plainF f.nm true 10, 0) := by rw [HR.out, if_neg ka, if_pos kb]
      clear ka
      have HE := Lib.hid e
      clear e HR
      go_wp2_with fail
      obtain ⟨Y, hY⟩ : ∃ Y, Y = (W2.alloc (.cells #[Value.string g.nm, Value.bool g.nl, Value.int IntKind.i64 g.k, Value.int IntKind.i64 g.wd, Value.int IntKind.i64 g.id, Value.int IntKind.i64 g.ix, Value.slice bp g.kids.length bc] 28)).alloc (.cells #[Value.string f.nm, Value.bool true, Value.int .i64 10, Value.int .i64 0, Value.int .i64 0, Value.int .i64 0, Value.slice none 0 0] 28) := ⟨_, rfl⟩
      have oY : BoxN Y (W2.heap.size + 1) 28 [Value.string f.nm, Value.bool true, Value.int .i64 10, Value.int .i64 0, Value.int .i64 0, Value.int .i64 0, Value.slice none 0 0] := by
        rw [hY]
        have := BoxN.new (W2.alloc (.cells #[Value.string g.nm, Value.bool g.nl, Value.int IntKind.i64 g.k, Value.int IntKind.i64 g.wd, Value.int IntKind.i64 g.id, Value.int IntKind.i64 g.ix, Value.slice bp g.kids.length bc] 28)) 28 [Value.string f.nm, Value.bool true, Value.int .i64 10, Value.int .i64 0, Value.int .i64 0, Value.int .i64 0, Value.slice none 0 0]
        rwa [World.size_alloc] at this
      have hBY : Below W2.heap.size W2 Y := by rw [hY]; exact ((Below.refl _ W2).alloc (Nat.le_refl _) _).alloc (by simp) _
      have hBYw : Below w.heap.size w Y := HB2.out.trans (hBY.mono HB2.out.size)
      rw [← hY]
      clear hY r0 r1 r2 r3 r4 r5 r6 q0 q1 q2 q3 q4 q5 q6 y0 y1 y2 y3 y4 y5 y6
      refine (right_calls (f := plainF f.nm true 10) (p := none) (cap := 0) ((plainS (S := fun _ => True) hnm true (by unfold i64B; omega)).at) (HS.out.below hBYw)).mono ?_
      rintro e W3 ⟨rfl, hb3⟩
      have HB3 := Lib.hid (hBYw.trans (hb3.mono hBYw.size))
      have hBW3 : Below W2.heap.size W2 W3 := hBY.trans (hb3.mono hBY.size)
      have D2 := Lib.hid (C2.out.below hBW3 C2.out.lt)
      have OY := Lib.hid (oY.below hb3 oY.lt)
      have HBW3 := Lib.hid hBW3
      clear hBY hBYw hb3 oY hBW3
      have hl3 := D2.out.lt
      have hl4 := OY.out.lt
      have r0 := OY.out.row 0 _ rfl
      have r1 := OY.out.row 1 _ rfl
      have r2 := OY.out.row 2 _ rfl
      have r3 := OY.out.row 3 _ rfl
      have r4 := OY.out.row 4 _ rfl
      have r5 := OY.out.row 5 _ rfl
      have r6 := OY.out.row 6 _ rfl
      have q0 := D2.out.row 0 _ rfl
      have q1 := D2.out.row 1 _ rfl
      have q2 := D2.out.row 2 _ rfl
      have q3 := D2.out.row 3 _ rfl
      have q4 := D2.out.row 4 _ rfl
      have q5 := D2.out.row 5 _ rfl
      have q6 := D2.out.row 6 _ rfl
      have y0 := D2.out.frozen 0
      have y1 := D2.out.frozen 1
      have y2 := D2.out.frozen 2
      have y3 := D2.out.frozen 3
      have y4 := D2.out.frozen 4
      have y5 := D2.out.frozen 5
      have y6 := D2.out.frozen 6
      rw [may_plain HNN.out true (by decide) (by decide)]
      go_wp2_with fail
      rw [HE.out]
      exact type_back2 (fn := Tryz.f11) (g := plainF f.nm true 10) (rb := w.heap.size + 1) (p := none) (cap := 0) rfl (put7_box (l := [_, _, _, _, _, _, _]) rfl D2.out _ _ _ _ _ _ _) (put7_below HB3.out (by omega) _ _ _ _ _ _ _) ((plainS (S := fun _ => True) hnm true (by unfold i64B; omega)).at) rfl rfl
    by_cases kc : g.k = 11
    · have e : res = (plainF f.nm true 11, 0) := by rw [HR.out, if_neg ka, if_neg kb, if_pos kc]
      have k11 : (g.k == 11) = true := by rw [kc]; rfl
      have k12 : 11 ≤ g.k := by omega
      clear ka kb kc
      have HE := Lib.hid e
      clear e HR
      go_wp2_with fail
      obtain ⟨Y, hY⟩ : ∃ Y, Y = (W2.alloc (.cells #[Value.string g.nm, Value.bool g.nl, Value.int IntKind.i64 g.k, Value.int IntKind.i64 g.wd, Value.int IntKind.i64 g.id, Value.int IntKind.i64 g.ix, Value.slice bp g.kids.length bc] 28)).alloc (.cells #[Value.string f.nm, Value.bool true, Value.int .i64 11, Value.int .i64 0, Value.int .i64 0, Value.int .i64 0, Value.slice none 0 0] 28) := ⟨_, rfl⟩
      have oY : BoxN Y (W2.heap.size + 1) 28 [Value.string f.nm, Value.bool true, Value.int .i64 11, Value.int .i64 0, Value.int .i64 0, Value.int .i64 0, Value.slice none 0 0] := by
        rw [hY]
        have := BoxN.new (W2.alloc (.cells #[Value.string g.nm, Value.bool g.nl, Value.int IntKind.i64 g.k, Value.int IntKind.i64 g.wd, Value.int IntKind.i64 g.id, Value.int IntKind.i64 g.ix, Value.slice bp g.kids.length bc] 28)) 28 [Value.string f.nm, Value.bool true, Value.int .i64 11, Value.int .i64 0, Value.int .i64 0, Value.int .i64 0, Value.slice none 0 0]
        rwa [World.size_alloc] at this
      have hBY : Below W2.heap.size W2 Y := by rw [hY]; exact ((Below.refl _ W2).alloc (Nat.le_refl _) _).alloc (by simp) _
      have hBYw : Below w.heap.size w Y := HB2.out.trans (hBY.mono HB2.out.size)
      rw [← hY]
      clear hY r0 r1 r2 r3 r4 r5 r6 q0 q1 q2 q3 q4 q5 q6 y0 y1 y2 y3 y4 y5 y6
      refine (right_calls (f := plainF f.nm true 11) (p := none) (cap := 0) ((plainS (S := fun _ => True) hnm true (by unfold i64B; omega)).at) (HS.out.below hBYw)).mono ?_
      rintro e W3 ⟨rfl, hb3⟩
      have HB3 := Lib.hid (hBYw.trans (hb3.mono hBYw.size))
      have hBW3 : Below W2.heap.size W2 W3 := hBY.trans (hb3.mono hBY.size)
      have D2 := Lib.hid (C2.out.below hBW3 C2.out.lt)
      have OY := Lib.hid (oY.below hb3 oY.lt)
      have HBW3 := Lib.hid hBW3
      clear hBY hBYw hb3 oY hBW3
      have hl3 := D2.out.lt
      have hl4 := OY.out.lt
      have r0 := OY.out.row 0 _ rfl
      have r1 := OY.out.row 1 _ rfl
      have r2 := OY.out.row 2 _ rfl
      have r3 := OY.out.row 3 _ rfl
      have r4 := OY.out.row 4 _ rfl
      have r5 := OY.out.row 5 _ rfl
      have r6 := OY.out.row 6 _ rfl
      have q0 := D2.out.row 0 _ rfl
      have q1 := D2.out.row 1 _ rfl
      have q2 := D2.out.row 2 _ rfl
      have q3 := D2.out.row 3 _ rfl
      have q4 := D2.out.row 4 _ rfl
      have q5 := D2.out.row 5 _ rfl
      have q6 := D2.out.row 6 _ rfl
      have y0 := D2.out.frozen 0
      have y1 := D2.out.frozen 1
      have y2 := D2.out.frozen 2
      have y3 := D2.out.frozen 3
      have y4 := D2.out.frozen 4
      have y5 := D2.out.frozen 5
      have y6 := D2.out.frozen 6
      rw [may_plain HNN.out true (by decide) (by decide)]
      go_wp2_with fail
      rw [HE.out]
      exact type_back2 (fn := Tryz.f11) (g := plainF f.nm true 11) (rb := w.heap.size + 1) (p := none) (cap := 0) rfl (put7_box (l := [_, _, _, _, _, _, _]) rfl D2.out _ _ _ _ _ _ _) (put7_below HB3.out (by omega) _ _ _ _ _ _ _) ((plainS (S := fun _ => True) hnm true (by unfold i64B; omega)).at) rfl rfl
    · have e : res = (noF, 5) := by rw [HR.out, if_neg ka, if_neg kb, if_neg kc]
      have k11 : (g.k == 11) = false := by rw [beq_eq_false_iff_ne]; exact kc
      rcases (show g.k < 3 ∨ 12 ≤ g.k by omega) with kx | kx
      · clear ka kb kc
        have HE := Lib.hid e
        clear e HR
        go_wp2_with fail
        obtain ⟨Y, hY⟩ : ∃ Y, Y = (W2.alloc (.cells #[Value.string g.nm, Value.bool g.nl, Value.int IntKind.i64 g.k, Value.int IntKind.i64 g.wd, Value.int IntKind.i64 g.id, Value.int IntKind.i64 g.ix, Value.slice bp g.kids.length bc] 28)).alloc (.cells #[Value.string f.nm, Value.bool true, Value.int .i64 0, Value.int .i64 0, Value.int .i64 0, Value.int .i64 0, Value.slice none 0 0] 28) := ⟨_, rfl⟩
        have oY : BoxN Y (W2.heap.size + 1) 28 [Value.string f.nm, Value.bool true, Value.int .i64 0, Value.int .i64 0, Value.int .i64 0, Value.int .i64 0, Value.slice none 0 0] := by
          rw [hY]
          have := BoxN.new (W2.alloc (.cells #[Value.string g.nm, Value.bool g.nl, Value.int IntKind.i64 g.k, Value.int IntKind.i64 g.wd, Value.int IntKind.i64 g.id, Value.int IntKind.i64 g.ix, Value.slice bp g.kids.length bc] 28)) 28 [Value.string f.nm, Value.bool true, Value.int .i64 0, Value.int .i64 0, Value.int .i64 0, Value.int .i64 0, Value.slice none 0 0]
          rwa [World.size_alloc] at this
        have hBY : Below W2.heap.size W2 Y := by rw [hY]; exact ((Below.refl _ W2).alloc (Nat.le_refl _) _).alloc (by simp) _
        have hBYw : Below w.heap.size w Y := HB2.out.trans (hBY.mono HB2.out.size)
        rw [← hY]
        clear hY r0 r1 r2 r3 r4 r5 r6 q0 q1 q2 q3 q4 q5 q6 y0 y1 y2 y3 y4 y5 y6
        refine (right_calls (f := plainF f.nm true 0) (p := none) (cap := 0) ((plainS (S := fun _ => True) hnm true (by unfold i64B; omega)).at) (HS.out.below hBYw)).mono ?_
        rintro e W3 ⟨rfl, hb3⟩
        have HB3 := Lib.hid (hBYw.trans (hb3.mono hBYw.size))
        have hBW3 : Below W2.heap.size W2 W3 := hBY.trans (hb3.mono hBY.size)
        have D2 := Lib.hid (C2.out.below hBW3 C2.out.lt)
        have OY := Lib.hid (oY.below hb3 oY.lt)
        have HBW3 := Lib.hid hBW3
        clear hBY hBYw hb3 oY hBW3
        have hl3 := D2.out.lt
        have hl4 := OY.out.lt
        have r0 := OY.out.row 0 _ rfl
        have r1 := OY.out.row 1 _ rfl
        have r2 := OY.out.row 2 _ rfl
        have r3 := OY.out.row 3 _ rfl
        have r4 := OY.out.row 4 _ rfl
        have r5 := OY.out.row 5 _ rfl
        have r6 := OY.out.row 6 _ rfl
        have q0 := D2.out.row 0 _ rfl
        have q1 := D2.out.row 1 _ rfl
        have q2 := D2.out.row 2 _ rfl
        have q3 := D2.out.row 3 _ rfl
        have q4 := D2.out.row 4 _ rfl
        have q5 := D2.out.row 5 _ rfl
        have q6 := D2.out.row 6 _ rfl
        have y0 := D2.out.frozen 0
        have y1 := D2.out.frozen 1
        have y2 := D2.out.frozen 2
        have y3 := D2.out.frozen 3
        have y4 := D2.out.frozen 4
        have y5 := D2.out.frozen 5
        have y6 := D2.out.frozen 6
        rw [may_none HNN.out true]
        go_wp2_with fail
        rw [HE.out]
        exact type_back2 (fn := Tryz.f11) (g := noF) (rb := w.heap.size + 1) (p := none) (cap := 0) rfl (put7_box (l := [_, _, _, _, _, _, _]) rfl D2.out _ _ _ _ _ _ _) (put7_below HB3.out (by omega) _ _ _ _ _ _ _) ((plainS (S := fun _ => True) (nm := ⟨#[]⟩) (by decide) false (by unfold i64B; omega)).at) rfl rfl
      · clear ka kb kc
        have HE := Lib.hid e
        clear e HR
        go_wp2_with fail
        obtain ⟨Y, hY⟩ : ∃ Y, Y = (W2.alloc (.cells #[Value.string g.nm, Value.bool g.nl, Value.int IntKind.i64 g.k, Value.int IntKind.i64 g.wd, Value.int IntKind.i64 g.id, Value.int IntKind.i64 g.ix, Value.slice bp g.kids.length bc] 28)).alloc (.cells #[Value.string f.nm, Value.bool true, Value.int .i64 0, Value.int .i64 0, Value.int .i64 0, Value.int .i64 0, Value.slice none 0 0] 28) := ⟨_, rfl⟩
        have oY : BoxN Y (W2.heap.size + 1) 28 [Value.string f.nm, Value.bool true, Value.int .i64 0, Value.int .i64 0, Value.int .i64 0, Value.int .i64 0, Value.slice none 0 0] := by
          rw [hY]
          have := BoxN.new (W2.alloc (.cells #[Value.string g.nm, Value.bool g.nl, Value.int IntKind.i64 g.k, Value.int IntKind.i64 g.wd, Value.int IntKind.i64 g.id, Value.int IntKind.i64 g.ix, Value.slice bp g.kids.length bc] 28)) 28 [Value.string f.nm, Value.bool true, Value.int .i64 0, Value.int .i64 0, Value.int .i64 0, Value.int .i64 0, Value.slice none 0 0]
          rwa [World.size_alloc] at this
        have hBY : Below W2.heap.size W2 Y := by rw [hY]; exact ((Below.refl _ W2).alloc (Nat.le_refl _) _).alloc (by simp) _
        have hBYw : Below w.heap.size w Y := HB2.out.trans (hBY.mono HB2.out.size)
        rw [← hY]
        clear hY r0 r1 r2 r3 r4 r5 r6 q0 q1 q2 q3 q4 q5 q6 y0 y1 y2 y3 y4 y5 y6
        refine (right_calls (f := plainF f.nm true 0) (p := none) (cap := 0) ((plainS (S := fun _ => True) hnm true (by unfold i64B; omega)).at) (HS.out.below hBYw)).mono ?_
        rintro e W3 ⟨rfl, hb3⟩
        have HB3 := Lib.hid (hBYw.trans (hb3.mono hBYw.size))
        have hBW3 : Below W2.heap.size W2 W3 := hBY.trans (hb3.mono hBY.size)
        have D2 := Lib.hid (C2.out.below hBW3 C2.out.lt)
        have OY := Lib.hid (oY.below hb3 oY.lt)
        have HBW3 := Lib.hid hBW3
        clear hBY hBYw hb3 oY hBW3
        have hl3 := D2.out.lt
        have hl4 := OY.out.lt
        have r0 := OY.out.row 0 _ rfl
        have r1 := OY.out.row 1 _ rfl
        have r2 := OY.out.row 2 _ rfl
        have r3 := OY.out.row 3 _ rfl
        have r4 := OY.out.row 4 _ rfl
        have r5 := OY.out.row 5 _ rfl
        have r6 := OY.out.row 6 _ rfl
        have q0 := D2.out.row 0 _ rfl
        have q1 := D2.out.row 1 _ rfl
        have q2 := D2.out.row 2 _ rfl
        have q3 := D2.out.row 3 _ rfl
        have q4 := D2.out.row 4 _ rfl
        have q5 := D2.out.row 5 _ rfl
        have q6 := D2.out.row 6 _ rfl
        have y0 := D2.out.frozen 0
        have y1 := D2.out.frozen 1
        have y2 := D2.out.frozen 2
        have y3 := D2.out.frozen 3
        have y4 := D2.out.frozen 4
        have y5 := D2.out.frozen 5
        have y6 := D2.out.frozen 6
        rw [may_none HNN.out true]
        go_wp2_with fail
        rw [HE.out]
        exact type_back2 (fn := Tryz.f11) (g := noF) (rb := w.heap.size + 1) (p := none) (cap := 0) rfl (put7_box (l := [_, _, _, _, _, _, _]) rfl D2.out _ _ _ _ _ _ _) (put7_below HB3.out (by omega) _ _ _ _ _ _ _) ((plainS (S := fun _ => True) (nm := ⟨#[]⟩) (by decide) false (by unfold i64B; omega)).at) rfl rfl
  have n3 : (op == 3) = false := by rw [beq_eq_false_iff_ne]; exact o3
  replace HR := Lib.hid (show _ from by have := HR.out; rw [if_neg o3] at this; exact this)
  by_cases o4 : 4 ≤ op ∧ op ≤ 7
  · replace HR := Lib.hid (show _ from by have := HR.out; rw [if_pos o4] at this; exact this)
    have hgn : g.named f.nm true = g.named g.nm true := by rw [HGNM.out]
    have HGN := Lib.hid hgn
    have hor : op = 4 ∨ op = 5 ∨ op = 6 ∨ op = 7 := by omega
    clear hgn o4 o3 hop n1 n2 n3
    cases hm2 : mayB (g.named g.nm true) with
    | true =>
      have e : res = (g.named g.nm true, 0) := by rw [HR.out, HGN.out, if_pos hm2]
      have HM2 := Lib.hid hm2
      clear hm2
      rcases hor with rfl | rfl | rfl | rfl
      · have HE := Lib.hid e
        clear e HR
        go_wp2_with fail
        obtain ⟨Y, hY⟩ : ∃ Y, Y = (W2.alloc (.cells #[Value.string g.nm, Value.bool g.nl, Value.int IntKind.i64 g.k, Value.int IntKind.i64 g.wd, Value.int IntKind.i64 g.id, Value.int IntKind.i64 g.ix, Value.slice bp g.kids.length bc] 28)).alloc (.cells #[Value.string g.nm, Value.bool true, Value.int .i64 g.k, Value.int .i64 g.wd, Value.int .i64 g.id, Value.int .i64 g.ix, Value.slice bp g.kids.length bc] 28) := ⟨_, rfl⟩
        have oY : BoxN Y (W2.heap.size + 1) 28 [Value.string g.nm, Value.bool true, Value.int .i64 g.k, Value.int .i64 g.wd, Value.int .i64 g.id, Value.int .i64 g.ix, Value.slice bp g.kids.length bc] := by
          rw [hY]
          have := BoxN.new (W2.alloc (.cells #[Value.string g.nm, Value.bool g.nl, Value.int IntKind.i64 g.k, Value.int IntKind.i64 g.wd, Value.int IntKind.i64 g.id, Value.int IntKind.i64 g.ix, Value.slice bp g.kids.length bc] 28)) 28 [Value.string g.nm, Value.bool true, Value.int .i64 g.k, Value.int .i64 g.wd, Value.int .i64 g.id, Value.int .i64 g.ix, Value.slice bp g.kids.length bc]
          rwa [World.size_alloc] at this
        have hBY : Below W2.heap.size W2 Y := by rw [hY]; exact ((Below.refl _ W2).alloc (Nat.le_refl _) _).alloc (by simp) _
        have hBYw : Below w.heap.size w Y := HB2.out.trans (hBY.mono HB2.out.size)
        rw [← hY]
        clear hY r0 r1 r2 r3 r4 r5 r6 q0 q1 q2 q3 q4 q5 q6 y0 y1 y2 y3 y4 y5 y6
        refine (right_calls (f := g.named g.nm true) (p := bp) (cap := bc) ((HFD.out.at.below hBY).named hgnm true) (HS.out.below hBYw)).mono ?_
        rintro e W3 ⟨rfl, hb3⟩
        have HB3 := Lib.hid (hBYw.trans (hb3.mono hBYw.size))
        have hBW3 : Below W2.heap.size W2 W3 := hBY.trans (hb3.mono hBY.size)
        have D2 := Lib.hid (C2.out.below hBW3 C2.out.lt)
        have OY := Lib.hid (oY.below hb3 oY.lt)
        have HBW3 := Lib.hid hBW3
        clear hBY hBYw hb3 oY hBW3
        have hl3 := D2.out.lt
        have hl4 := OY.out.lt
        have r0 := OY.out.row 0 _ rfl
        have r1 := OY.out.row 1 _ rfl
        have r2 := OY.out.row 2 _ rfl
        have r3 := OY.out.row 3 _ rfl
        have r4 := OY.out.row 4 _ rfl
        have r5 := OY.out.row 5 _ rfl
        have r6 := OY.out.row 6 _ rfl
        have q0 := D2.out.row 0 _ rfl
        have q1 := D2.out.row 1 _ rfl
        have q2 := D2.out.row 2 _ rfl
        have q3 := D2.out.row 3 _ rfl
        have q4 := D2.out.row 4 _ rfl
        have q5 := D2.out.row 5 _ rfl
        have q6 := D2.out.row 6 _ rfl
        have y0 := D2.out.frozen 0
        have y1 := D2.out.frozen 1
        have y2 := D2.out.frozen 2
        have y3 := D2.out.frozen 3
        have y4 := D2.out.frozen 4
        have y5 := D2.out.frozen 5
        have y6 := D2.out.frozen 6
        rw [HM2.out]
        go_wp2_with fail
        rw [HE.out]
        exact type_back2 (fn := Tryz.f11) (g := g.named g.nm true) (rb := w.heap.size + 1) (p := bp) (cap := bc) rfl (put7_box (l := [_, _, _, _, _, _, _]) rfl D2.out _ _ _ _ _ _ _) (put7_below HB3.out (by omega) _ _ _ _ _ _ _) (((((HFD.out.below HBW3.out).named hgnm true).put7 (fun b hb => by have hb' : W1.heap.size ≤ b := hb; omega) _ _ _ _ _ _ _)).at) rfl rfl
      · have HE := Lib.hid e
        clear e HR
        go_wp2_with fail
        obtain ⟨Y, hY⟩ : ∃ Y, Y = (W2.alloc (.cells #[Value.string g.nm, Value.bool g.nl, Value.int IntKind.i64 g.k, Value.int IntKind.i64 g.wd, Value.int IntKind.i64 g.id, Value.int IntKind.i64 g.ix, Value.slice bp g.kids.length bc] 28)).alloc (.cells #[Value.string g.nm, Value.bool true, Value.int .i64 g.k, Value.int .i64 g.wd, Value.int .i64 g.id, Value.int .i64 g.ix, Value.slice bp g.kids.length bc] 28) := ⟨_, rfl⟩
        have oY : BoxN Y (W2.heap.size + 1) 28 [Value.string g.nm, Value.bool true, Value.int .i64 g.k, Value.int .i64 g.wd, Value.int .i64 g.id, Value.int .i64 g.ix, Value.slice bp g.kids.length bc] := by
          rw [hY]
          have := BoxN.new (W2.alloc (.cells #[Value.string g.nm, Value.bool g.nl, Value.int IntKind.i64 g.k, Value.int IntKind.i64 g.wd, Value.int IntKind.i64 g.id, Value.int IntKind.i64 g.ix, Value.slice bp g.kids.length bc] 28)) 28 [Value.string g.nm, Value.bool true, Value.int .i64 g.k, Value.int .i64 g.wd, Value.int .i64 g.id, Value.int .i64 g.ix, Value.slice bp g.kids.length bc]
          rwa [World.size_alloc] at this
        have hBY : Below W2.heap.size W2 Y := by rw [hY]; exact ((Below.refl _ W2).alloc (Nat.le_refl _) _).alloc (by simp) _
        have hBYw : Below w.heap.size w Y := HB2.out.trans (hBY.mono HB2.out.size)
        rw [← hY]
        clear hY r0 r1 r2 r3 r4 r5 r6 q0 q1 q2 q3 q4 q5 q6 y0 y1 y2 y3 y4 y5 y6
        refine (right_calls (f := g.named g.nm true) (p := bp) (cap := bc) ((HFD.out.at.below hBY).named hgnm true) (HS.out.below hBYw)).mono ?_
        rintro e W3 ⟨rfl, hb3⟩
        have HB3 := Lib.hid (hBYw.trans (hb3.mono hBYw.size))
        have hBW3 : Below W2.heap.size W2 W3 := hBY.trans (hb3.mono hBY.size)
        have D2 := Lib.hid (C2.out.below hBW3 C2.out.lt)
        have OY := Lib.hid (oY.below hb3 oY.lt)
        have HBW3 := Lib.hid hBW3
        clear hBY hBYw hb3 oY hBW3
        have hl3 := D2.out.lt
        have hl4 := OY.out.lt
        have r0 := OY.out.row 0 _ rfl
        have r1 := OY.out.row 1 _ rfl
        have r2 := OY.out.row 2 _ rfl
        have r3 := OY.out.row 3 _ rfl
        have r4 := OY.out.row 4 _ rfl
        have r5 := OY.out.row 5 _ rfl
        have r6 := OY.out.row 6 _ rfl
        have q0 := D2.out.row 0 _ rfl
        have q1 := D2.out.row 1 _ rfl
        have q2 := D2.out.row 2 _ rfl
        have q3 := D2.out.row 3 _ rfl
        have q4 := D2.out.row 4 _ rfl
        have q5 := D2.out.row 5 _ rfl
        have q6 := D2.out.row 6 _ rfl
        have y0 := D2.out.frozen 0
        have y1 := D2.out.frozen 1
        have y2 := D2.out.frozen 2
        have y3 := D2.out.frozen 3
        have y4 := D2.out.frozen 4
        have y5 := D2.out.frozen 5
        have y6 := D2.out.frozen 6
        rw [HM2.out]
        go_wp2_with fail
        rw [HE.out]
        exact type_back2 (fn := Tryz.f11) (g := g.named g.nm true) (rb := w.heap.size + 1) (p := bp) (cap := bc) rfl (put7_box (l := [_, _, _, _, _, _, _]) rfl D2.out _ _ _ _ _ _ _) (put7_below HB3.out (by omega) _ _ _ _ _ _ _) (((((HFD.out.below HBW3.out).named hgnm true).put7 (fun b hb => by have hb' : W1.heap.size ≤ b := hb; omega) _ _ _ _ _ _ _)).at) rfl rfl
      · have HE := Lib.hid e
        clear e HR
        go_wp2_with fail
        obtain ⟨Y, hY⟩ : ∃ Y, Y = (W2.alloc (.cells #[Value.string g.nm, Value.bool g.nl, Value.int IntKind.i64 g.k, Value.int IntKind.i64 g.wd, Value.int IntKind.i64 g.id, Value.int IntKind.i64 g.ix, Value.slice bp g.kids.length bc] 28)).alloc (.cells #[Value.string g.nm, Value.bool true, Value.int .i64 g.k, Value.int .i64 g.wd, Value.int .i64 g.id, Value.int .i64 g.ix, Value.slice bp g.kids.length bc] 28) := ⟨_, rfl⟩
        have oY : BoxN Y (W2.heap.size + 1) 28 [Value.string g.nm, Value.bool true, Value.int .i64 g.k, Value.int .i64 g.wd, Value.int .i64 g.id, Value.int .i64 g.ix, Value.slice bp g.kids.length bc] := by
          rw [hY]
          have := BoxN.new (W2.alloc (.cells #[Value.string g.nm, Value.bool g.nl, Value.int IntKind.i64 g.k, Value.int IntKind.i64 g.wd, Value.int IntKind.i64 g.id, Value.int IntKind.i64 g.ix, Value.slice bp g.kids.length bc] 28)) 28 [Value.string g.nm, Value.bool true, Value.int .i64 g.k, Value.int .i64 g.wd, Value.int .i64 g.id, Value.int .i64 g.ix, Value.slice bp g.kids.length bc]
          rwa [World.size_alloc] at this
        have hBY : Below W2.heap.size W2 Y := by rw [hY]; exact ((Below.refl _ W2).alloc (Nat.le_refl _) _).alloc (by simp) _
        have hBYw : Below w.heap.size w Y := HB2.out.trans (hBY.mono HB2.out.size)
        rw [← hY]
        clear hY r0 r1 r2 r3 r4 r5 r6 q0 q1 q2 q3 q4 q5 q6 y0 y1 y2 y3 y4 y5 y6
        refine (right_calls (f := g.named g.nm true) (p := bp) (cap := bc) ((HFD.out.at.below hBY).named hgnm true) (HS.out.below hBYw)).mono ?_
        rintro e W3 ⟨rfl, hb3⟩
        have HB3 := Lib.hid (hBYw.trans (hb3.mono hBYw.size))
        have hBW3 : Below W2.heap.size W2 W3 := hBY.trans (hb3.mono hBY.size)
        have D2 := Lib.hid (C2.out.below hBW3 C2.out.lt)
        have OY := Lib.hid (oY.below hb3 oY.lt)
        have HBW3 := Lib.hid hBW3
        clear hBY hBYw hb3 oY hBW3
        have hl3 := D2.out.lt
        have hl4 := OY.out.lt
        have r0 := OY.out.row 0 _ rfl
        have r1 := OY.out.row 1 _ rfl
        have r2 := OY.out.row 2 _ rfl
        have r3 := OY.out.row 3 _ rfl
        have r4 := OY.out.row 4 _ rfl
        have r5 := OY.out.row 5 _ rfl
        have r6 := OY.out.row 6 _ rfl
        have q0 := D2.out.row 0 _ rfl
        have q1 := D2.out.row 1 _ rfl
        have q2 := D2.out.row 2 _ rfl
        have q3 := D2.out.row 3 _ rfl
        have q4 := D2.out.row 4 _ rfl
        have q5 := D2.out.row 5 _ rfl
        have q6 := D2.out.row 6 _ rfl
        have y0 := D2.out.frozen 0
        have y1 := D2.out.frozen 1
        have y2 := D2.out.frozen 2
        have y3 := D2.out.frozen 3
        have y4 := D2.out.frozen 4
        have y5 := D2.out.frozen 5
        have y6 := D2.out.frozen 6
        rw [HM2.out]
        go_wp2_with fail
        rw [HE.out]
        exact type_back2 (fn := Tryz.f11) (g := g.named g.nm true) (rb := w.heap.size + 1) (p := bp) (cap := bc) rfl (put7_box (l := [_, _, _, _, _, _, _]) rfl D2.out _ _ _ _ _ _ _) (put7_below HB3.out (by omega) _ _ _ _ _ _ _) (((((HFD.out.below HBW3.out).named hgnm true).put7 (fun b hb => by have hb' : W1.heap.size ≤ b := hb; omega) _ _ _ _ _ _ _)).at) rfl rfl
      · have HE := Lib.hid e
        clear e HR
        go_wp2_with fail
        obtain ⟨Y, hY⟩ : ∃ Y, Y = (W2.alloc (.cells #[Value.string g.nm, Value.bool g.nl, Value.int IntKind.i64 g.k, Value.int IntKind.i64 g.wd, Value.int IntKind.i64 g.id, Value.int IntKind.i64 g.ix, Value.slice bp g.kids.length bc] 28)).alloc (.cells #[Value.string g.nm, Value.bool true, Value.int .i64 g.k, Value.int .i64 g.wd, Value.int .i64 g.id, Value.int .i64 g.ix, Value.slice bp g.kids.length bc] 28) := ⟨_, rfl⟩
        have oY : BoxN Y (W2.heap.size + 1) 28 [Value.string g.nm, Value.bool true, Value.int .i64 g.k, Value.int .i64 g.wd, Value.int .i64 g.id, Value.int .i64 g.ix, Value.slice bp g.kids.length bc] := by
          rw [hY]
          have := BoxN.new (W2.alloc (.cells #[Value.string g.nm, Value.bool g.nl, Value.int IntKind.i64 g.k, Value.int IntKind.i64 g.wd, Value.int IntKind.i64 g.id, Value.int IntKind.i64 g.ix, Value.slice bp g.kids.length bc] 28)) 28 [Value.string g.nm, Value.bool true, Value.int .i64 g.k, Value.int .i64 g.wd, Value.int .i64 g.id, Value.int .i64 g.ix, Value.slice bp g.kids.length bc]
          rwa [World.size_alloc] at this
        have hBY : Below W2.heap.size W2 Y := by rw [hY]; exact ((Below.refl _ W2).alloc (Nat.le_refl _) _).alloc (by simp) _
        have hBYw : Below w.heap.size w Y := HB2.out.trans (hBY.mono HB2.out.size)
        rw [← hY]
        clear hY r0 r1 r2 r3 r4 r5 r6 q0 q1 q2 q3 q4 q5 q6 y0 y1 y2 y3 y4 y5 y6
        refine (right_calls (f := g.named g.nm true) (p := bp) (cap := bc) ((HFD.out.at.below hBY).named hgnm true) (HS.out.below hBYw)).mono ?_
        rintro e W3 ⟨rfl, hb3⟩
        have HB3 := Lib.hid (hBYw.trans (hb3.mono hBYw.size))
        have hBW3 : Below W2.heap.size W2 W3 := hBY.trans (hb3.mono hBY.size)
        have D2 := Lib.hid (C2.out.below hBW3 C2.out.lt)
        have OY := Lib.hid (oY.below hb3 oY.lt)
        have HBW3 := Lib.hid hBW3
        clear hBY hBYw hb3 oY hBW3
        have hl3 := D2.out.lt
        have hl4 := OY.out.lt
        have r0 := OY.out.row 0 _ rfl
        have r1 := OY.out.row 1 _ rfl
        have r2 := OY.out.row 2 _ rfl
        have r3 := OY.out.row 3 _ rfl
        have r4 := OY.out.row 4 _ rfl
        have r5 := OY.out.row 5 _ rfl
        have r6 := OY.out.row 6 _ rfl
        have q0 := D2.out.row 0 _ rfl
        have q1 := D2.out.row 1 _ rfl
        have q2 := D2.out.row 2 _ rfl
        have q3 := D2.out.row 3 _ rfl
        have q4 := D2.out.row 4 _ rfl
        have q5 := D2.out.row 5 _ rfl
        have q6 := D2.out.row 6 _ rfl
        have y0 := D2.out.frozen 0
        have y1 := D2.out.frozen 1
        have y2 := D2.out.frozen 2
        have y3 := D2.out.frozen 3
        have y4 := D2.out.frozen 4
        have y5 := D2.out.frozen 5
        have y6 := D2.out.frozen 6
        rw [HM2.out]
        go_wp2_with fail
        rw [HE.out]
        exact type_back2 (fn := Tryz.f11) (g := g.named g.nm true) (rb := w.heap.size + 1) (p := bp) (cap := bc) rfl (put7_box (l := [_, _, _, _, _, _, _]) rfl D2.out _ _ _ _ _ _ _) (put7_below HB3.out (by omega) _ _ _ _ _ _ _) (((((HFD.out.below HBW3.out).named hgnm true).put7 (fun b hb => by have hb' : W1.heap.size ≤ b := hb; omega) _ _ _ _ _ _ _)).at) rfl rfl
    | false =>
      have e : res = (noF, 5) := by rw [HR.out, HGN.out, if_neg (by rw [hm2]; decide)]
      have HM2 := Lib.hid hm2
      clear hm2
      rcases hor with rfl | rfl | rfl | rfl
      · have HE := Lib.hid e
        clear e HR
        go_wp2_with fail
        obtain ⟨Y, hY⟩ : ∃ Y, Y = (W2.alloc (.cells #[Value.string g.nm, Value.bool g.nl, Value.int IntKind.i64 g.k, Value.int IntKind.i64 g.wd, Value.int IntKind.i64 g.id, Value.int IntKind.i64 g.ix, Value.slice bp g.kids.length bc] 28)).alloc (.cells #[Value.string g.nm, Value.bool true, Value.int .i64 g.k, Value.int .i64 g.wd, Value.int .i64 g.id, Value.int .i64 g.ix, Value.slice bp g.kids.length bc] 28) := ⟨_, rfl⟩
        have oY : BoxN Y (W2.heap.size + 1) 28 [Value.string g.nm, Value.bool true, Value.int .i64 g.k, Value.int .i64 g.wd, Value.int .i64 g.id, Value.int .i64 g.ix, Value.slice bp g.kids.length bc] := by
          rw [hY]
          have := BoxN.new (W2.alloc (.cells #[Value.string g.nm, Value.bool g.nl, Value.int IntKind.i64 g.k, Value.int IntKind.i64 g.wd, Value.int IntKind.i64 g.id, Value.int IntKind.i64 g.ix, Value.slice bp g.kids.length bc] 28)) 28 [Value.string g.nm, Value.bool true, Value.int .i64 g.k, Value.int .i64 g.wd, Value.int .i64 g.id, Value.int .i64 g.ix, Value.slice bp g.kids.length bc]
          rwa [World.size_alloc] at this
        have hBY : Below W2.heap.size W2 Y := by rw [hY]; exact ((Below.refl _ W2).alloc (Nat.le_refl _) _).alloc (by simp) _
        have hBYw : Below w.heap.size w Y := HB2.out.trans (hBY.mono HB2.out.size)
        rw [← hY]
        clear hY r0 r1 r2 r3 r4 r5 r6 q0 q1 q2 q3 q4 q5 q6 y0 y1 y2 y3 y4 y5 y6
        refine (right_calls (f := g.named g.nm true) (p := bp) (cap := bc) ((HFD.out.at.below hBY).named hgnm true) (HS.out.below hBYw)).mono ?_
        rintro e W3 ⟨rfl, hb3⟩
        have HB3 := Lib.hid (hBYw.trans (hb3.mono hBYw.size))
        have hBW3 : Below W2.heap.size W2 W3 := hBY.trans (hb3.mono hBY.size)
        have D2 := Lib.hid (C2.out.below hBW3 C2.out.lt)
        have OY := Lib.hid (oY.below hb3 oY.lt)
        have HBW3 := Lib.hid hBW3
        clear hBY hBYw hb3 oY hBW3
        have hl3 := D2.out.lt
        have hl4 := OY.out.lt
        have r0 := OY.out.row 0 _ rfl
        have r1 := OY.out.row 1 _ rfl
        have r2 := OY.out.row 2 _ rfl
        have r3 := OY.out.row 3 _ rfl
        have r4 := OY.out.row 4 _ rfl
        have r5 := OY.out.row 5 _ rfl
        have r6 := OY.out.row 6 _ rfl
        have q0 := D2.out.row 0 _ rfl
        have q1 := D2.out.row 1 _ rfl
        have q2 := D2.out.row 2 _ rfl
        have q3 := D2.out.row 3 _ rfl
        have q4 := D2.out.row 4 _ rfl
        have q5 := D2.out.row 5 _ rfl
        have q6 := D2.out.row 6 _ rfl
        have y0 := D2.out.frozen 0
        have y1 := D2.out.frozen 1
        have y2 := D2.out.frozen 2
        have y3 := D2.out.frozen 3
        have y4 := D2.out.frozen 4
        have y5 := D2.out.frozen 5
        have y6 := D2.out.frozen 6
        rw [HM2.out]
        go_wp2_with fail
        rw [HE.out]
        exact type_back2 (fn := Tryz.f11) (g := noF) (rb := w.heap.size + 1) (p := none) (cap := 0) rfl (put7_box (l := [_, _, _, _, _, _, _]) rfl D2.out _ _ _ _ _ _ _) (put7_below HB3.out (by omega) _ _ _ _ _ _ _) ((plainS (S := fun _ => True) (nm := ⟨#[]⟩) (by decide) false (by unfold i64B; omega)).at) rfl rfl
      · have HE := Lib.hid e
        clear e HR
        go_wp2_with fail
        obtain ⟨Y, hY⟩ : ∃ Y, Y = (W2.alloc (.cells #[Value.string g.nm, Value.bool g.nl, Value.int IntKind.i64 g.k, Value.int IntKind.i64 g.wd, Value.int IntKind.i64 g.id, Value.int IntKind.i64 g.ix, Value.slice bp g.kids.length bc] 28)).alloc (.cells #[Value.string g.nm, Value.bool true, Value.int .i64 g.k, Value.int .i64 g.wd, Value.int .i64 g.id, Value.int .i64 g.ix, Value.slice bp g.kids.length bc] 28) := ⟨_, rfl⟩
        have oY : BoxN Y (W2.heap.size + 1) 28 [Value.string g.nm, Value.bool true, Value.int .i64 g.k, Value.int .i64 g.wd, Value.int .i64 g.id, Value.int .i64 g.ix, Value.slice bp g.kids.length bc] := by
          rw [hY]
          have := BoxN.new (W2.alloc (.cells #[Value.string g.nm, Value.bool g.nl, Value.int IntKind.i64 g.k, Value.int IntKind.i64 g.wd, Value.int IntKind.i64 g.id, Value.int IntKind.i64 g.ix, Value.slice bp g.kids.length bc] 28)) 28 [Value.string g.nm, Value.bool true, Value.int .i64 g.k, Value.int .i64 g.wd, Value.int .i64 g.id, Value.int .i64 g.ix, Value.slice bp g.kids.length bc]
          rwa [World.size_alloc] at this
        have hBY : Below W2.heap.size W2 Y := by rw [hY]; exact ((Below.refl _ W2).alloc (Nat.le_refl _) _).alloc (by simp) _
        have hBYw : Below w.heap.size w Y := HB2.out.trans (hBY.mono HB2.out.size)
        rw [← hY]
        clear hY r0 r1 r2 r3 r4 r5 r6 q0 q1 q2 q3 q4 q5 q6 y0 y1 y2 y3 y4 y5 y6
        refine (right_calls (f := g.named g.nm true) (p := bp) (cap := bc) ((HFD.out.at.below hBY).named hgnm true) (HS.out.below hBYw)).mono ?_
        rintro e W3 ⟨rfl, hb3⟩
        have HB3 := Lib.hid (hBYw.trans (hb3.mono hBYw.size))
        have hBW3 : Below W2.heap.size W2 W3 := hBY.trans (hb3.mono hBY.size)
        have D2 := Lib.hid (C2.out.below hBW3 C2.out.lt)
        have OY := Lib.hid (oY.below hb3 oY.lt)
        have HBW3 := Lib.hid hBW3
        clear hBY hBYw hb3 oY hBW3
        have hl3 := D2.out.lt
        have hl4 := OY.out.lt
        have r0 := OY.out.row 0 _ rfl
        have r1 := OY.out.row 1 _ rfl
        have r2 := OY.out.row 2 _ rfl
        have r3 := OY.out.row 3 _ rfl
        have r4 := OY.out.row 4 _ rfl
        have r5 := OY.out.row 5 _ rfl
        have r6 := OY.out.row 6 _ rfl
        have q0 := D2.out.row 0 _ rfl
        have q1 := D2.out.row 1 _ rfl
        have q2 := D2.out.row 2 _ rfl
        have q3 := D2.out.row 3 _ rfl
        have q4 := D2.out.row 4 _ rfl
        have q5 := D2.out.row 5 _ rfl
        have q6 := D2.out.row 6 _ rfl
        have y0 := D2.out.frozen 0
        have y1 := D2.out.frozen 1
        have y2 := D2.out.frozen 2
        have y3 := D2.out.frozen 3
        have y4 := D2.out.frozen 4
        have y5 := D2.out.frozen 5
        have y6 := D2.out.frozen 6
        rw [HM2.out]
        go_wp2_with fail
        rw [HE.out]
        exact type_back2 (fn := Tryz.f11) (g := noF) (rb := w.heap.size + 1) (p := none) (cap := 0) rfl (put7_box (l := [_, _, _, _, _, _, _]) rfl D2.out _ _ _ _ _ _ _) (put7_below HB3.out (by omega) _ _ _ _ _ _ _) ((plainS (S := fun _ => True) (nm := ⟨#[]⟩) (by decide) false (by unfold i64B; omega)).at) rfl rfl
      · have HE := Lib.hid e
        clear e HR
        go_wp2_with fail
        obtain ⟨Y, hY⟩ : ∃ Y, Y = (W2.alloc (.cells #[Value.string g.nm, Value.bool g.nl, Value.int IntKind.i64 g.k, Value.int IntKind.i64 g.wd, Value.int IntKind.i64 g.id, Value.int IntKind.i64 g.ix, Value.slice bp g.kids.length bc] 28)).alloc (.cells #[Value.string g.nm, Value.bool true, Value.int .i64 g.k, Value.int .i64 g.wd, Value.int .i64 g.id, Value.int .i64 g.ix, Value.slice bp g.kids.length bc] 28) := ⟨_, rfl⟩
        have oY : BoxN Y (W2.heap.size + 1) 28 [Value.string g.nm, Value.bool true, Value.int .i64 g.k, Value.int .i64 g.wd, Value.int .i64 g.id, Value.int .i64 g.ix, Value.slice bp g.kids.length bc] := by
          rw [hY]
          have := BoxN.new (W2.alloc (.cells #[Value.string g.nm, Value.bool g.nl, Value.int IntKind.i64 g.k, Value.int IntKind.i64 g.wd, Value.int IntKind.i64 g.id, Value.int IntKind.i64 g.ix, Value.slice bp g.kids.length bc] 28)) 28 [Value.string g.nm, Value.bool true, Value.int .i64 g.k, Value.int .i64 g.wd, Value.int .i64 g.id, Value.int .i64 g.ix, Value.slice bp g.kids.length bc]
          rwa [World.size_alloc] at this
        have hBY : Below W2.heap.size W2 Y := by rw [hY]; exact ((Below.refl _ W2).alloc (Nat.le_refl _) _).alloc (by simp) _
        have hBYw : Below w.heap.size w Y := HB2.out.trans (hBY.mono HB2.out.size)
        rw [← hY]
        clear hY r0 r1 r2 r3 r4 r5 r6 q0 q1 q2 q3 q4 q5 q6 y0 y1 y2 y3 y4 y5 y6
        refine (right_calls (f := g.named g.nm true) (p := bp) (cap := bc) ((HFD.out.at.below hBY).named hgnm true) (HS.out.below hBYw)).mono ?_
        rintro e W3 ⟨rfl, hb3⟩
        have HB3 := Lib.hid (hBYw.trans (hb3.mono hBYw.size))
        have hBW3 : Below W2.heap.size W2 W3 := hBY.trans (hb3.mono hBY.size)
        have D2 := Lib.hid (C2.out.below hBW3 C2.out.lt)
        have OY := Lib.hid (oY.below hb3 oY.lt)
        have HBW3 := Lib.hid hBW3
        clear hBY hBYw hb3 oY hBW3
        have hl3 := D2.out.lt
        have hl4 := OY.out.lt
        have r0 := OY.out.row 0 _ rfl
        have r1 := OY.out.row 1 _ rfl
        have r2 := OY.out.row 2 _ rfl
        have r3 := OY.out.row 3 _ rfl
        have r4 := OY.out.row 4 _ rfl
        have r5 := OY.out.row 5 _ rfl
        have r6 := OY.out.row 6 _ rfl
        have q0 := D2.out.row 0 _ rfl
        have q1 := D2.out.row 1 _ rfl
        have q2 := D2.out.row 2 _ rfl
        have q3 := D2.out.row 3 _ rfl
        have q4 := D2.out.row 4 _ rfl
        have q5 := D2.out.row 5 _ rfl
        have q6 := D2.out.row 6 _ rfl
        have y0 := D2.out.frozen 0
        have y1 := D2.out.frozen 1
        have y2 := D2.out.frozen 2
        have y3 := D2.out.frozen 3
        have y4 := D2.out.frozen 4
        have y5 := D2.out.frozen 5
        have y6 := D2.out.frozen 6
        rw [HM2.out]
        go_wp2_with fail
        rw [HE.out]
        exact type_back2 (fn := Tryz.f11) (g := noF) (rb := w.heap.size + 1) (p := none) (cap := 0) rfl (put7_box (l := [_, _, _, _, _, _, _]) rfl D2.out _ _ _ _ _ _ _) (put7_below HB3.out (by omega) _ _ _ _ _ _ _) ((plainS (S := fun _ => True) (nm := ⟨#[]⟩) (by decide) false (by unfold i64B; omega)).at) rfl rfl
      · have HE := Lib.hid e
        clear e HR
        go_wp2_with fail
        obtain ⟨Y, hY⟩ : ∃ Y, Y = (W2.alloc (.cells #[Value.string g.nm, Value.bool g.nl, Value.int IntKind.i64 g.k, Value.int IntKind.i64 g.wd, Value.int IntKind.i64 g.id, Value.int IntKind.i64 g.ix, Value.slice bp g.kids.length bc] 28)).alloc (.cells #[Value.string g.nm, Value.bool true, Value.int .i64 g.k, Value.int .i64 g.wd, Value.int .i64 g.id, Value.int .i64 g.ix, Value.slice bp g.kids.length bc] 28) := ⟨_, rfl⟩
        have oY : BoxN Y (W2.heap.size + 1) 28 [Value.string g.nm, Value.bool true, Value.int .i64 g.k, Value.int .i64 g.wd, Value.int .i64 g.id, Value.int .i64 g.ix, Value.slice bp g.kids.length bc] := by
          rw [hY]
          have := BoxN.new (W2.alloc (.cells #[Value.string g.nm, Value.bool g.nl, Value.int IntKind.i64 g.k, Value.int IntKind.i64 g.wd, Value.int IntKind.i64 g.id, Value.int IntKind.i64 g.ix, Value.slice bp g.kids.length bc] 28)) 28 [Value.string g.nm, Value.bool true, Value.int .i64 g.k, Value.int .i64 g.wd, Value.int .i64 g.id, Value.int .i64 g.ix, Value.slice bp g.kids.length bc]
          rwa [World.size_alloc] at this
        have hBY : Below W2.heap.size W2 Y := by rw [hY]; exact ((Below.refl _ W2).alloc (Nat.le_refl _) _).alloc (by simp) _
        have hBYw : Below w.heap.size w Y := HB2.out.trans (hBY.mono HB2.out.size)
        rw [← hY]
        clear hY r0 r1 r2 r3 r4 r5 r6 q0 q1 q2 q3 q4 q5 q6 y0 y1 y2 y3 y4 y5 y6
        refine (right_calls (f := g.named g.nm true) (p := bp) (cap := bc) ((HFD.out.at.below hBY).named hgnm true) (HS.out.below hBYw)).mono ?_
        rintro e W3 ⟨rfl, hb3⟩
        have HB3 := Lib.hid (hBYw.trans (hb3.mono hBYw.size))
        have hBW3 : Below W2.heap.size W2 W3 := hBY.trans (hb3.mono hBY.size)
        have D2 := Lib.hid (C2.out.below hBW3 C2.out.lt)
        have OY := Lib.hid (oY.below hb3 oY.lt)
        have HBW3 := Lib.hid hBW3
        clear hBY hBYw hb3 oY hBW3
        have hl3 := D2.out.lt
        have hl4 := OY.out.lt
        have r0 := OY.out.row 0 _ rfl
        have r1 := OY.out.row 1 _ rfl
        have r2 := OY.out.row 2 _ rfl
        have r3 := OY.out.row 3 _ rfl
        have r4 := OY.out.row 4 _ rfl
        have r5 := OY.out.row 5 _ rfl
        have r6 := OY.out.row 6 _ rfl
        have q0 := D2.out.row 0 _ rfl
        have q1 := D2.out.row 1 _ rfl
        have q2 := D2.out.row 2 _ rfl
        have q3 := D2.out.row 3 _ rfl
        have q4 := D2.out.row 4 _ rfl
        have q5 := D2.out.row 5 _ rfl
        have q6 := D2.out.row 6 _ rfl
        have y0 := D2.out.frozen 0
        have y1 := D2.out.frozen 1
        have y2 := D2.out.frozen 2
        have y3 := D2.out.frozen 3
        have y4 := D2.out.frozen 4
        have y5 := D2.out.frozen 5
        have y6 := D2.out.frozen 6
        rw [HM2.out]
        go_wp2_with fail
        rw [HE.out]
        exact type_back2 (fn := Tryz.f11) (g := noF) (rb := w.heap.size + 1) (p := none) (cap := 0) rfl (put7_box (l := [_, _, _, _, _, _, _]) rfl D2.out _ _ _ _ _ _ _) (put7_below HB3.out (by omega) _ _ _ _ _ _ _) ((plainS (S := fun _ => True) (nm := ⟨#[]⟩) (by decide) false (by unfold i64B; omega)).at) rfl rfl
  replace HR := Lib.hid (show _ from by have := HR.out; rw [if_neg o4] at this; exact this)
  by_cases o8 : op = 8 ∨ op = 9
  · replace HR := Lib.hid (show _ from by have := HR.out; rw [if_pos o8] at this; exact this)
    clear o4 o3 hop n1 n2 n3
    by_cases k2 : g.k = 2
    · have e : res = (plainF f.nm true 2, 0) := by rw [HR.out, if_pos k2]
      have k22 : (g.k == 2) = true := by rw [k2]; rfl
      clear k2
      rcases o8 with rfl | rfl
      · have HE := Lib.hid e
        clear e HR
        go_wp2_with fail
        obtain ⟨Y, hY⟩ : ∃ Y, Y = (W2.alloc (.cells #[Value.string g.nm, Value.bool g.nl, Value.int IntKind.i64 g.k, Value.int IntKind.i64 g.wd, Value.int IntKind.i64 g.id, Value.int IntKind.i64 g.ix, Value.slice bp g.kids.length bc] 28)).alloc (.cells #[Value.string f.nm, Value.bool true, Value.int .i64 2, Value.int .i64 0, Value.int .i64 0, Value.int .i64 0, Value.slice none 0 0] 28) := ⟨_, rfl⟩
        have oY : BoxN Y (W2.heap.size + 1) 28 [Value.string f.nm, Value.bool true, Value.int .i64 2, Value.int .i64 0, Value.int .i64 0, Value.int .i64 0, Value.slice none 0 0] := by
          rw [hY]
          have := BoxN.new (W2.alloc (.cells #[Value.string g.nm, Value.bool g.nl, Value.int IntKind.i64 g.k, Value.int IntKind.i64 g.wd, Value.int IntKind.i64 g.id, Value.int IntKind.i64 g.ix, Value.slice bp g.kids.length bc] 28)) 28 [Value.string f.nm, Value.bool true, Value.int .i64 2, Value.int .i64 0, Value.int .i64 0, Value.int .i64 0, Value.slice none 0 0]
          rwa [World.size_alloc] at this
        have hBY : Below W2.heap.size W2 Y := by rw [hY]; exact ((Below.refl _ W2).alloc (Nat.le_refl _) _).alloc (by simp) _
        have hBYw : Below w.heap.size w Y := HB2.out.trans (hBY.mono HB2.out.size)
        rw [← hY]
        clear hY r0 r1 r2 r3 r4 r5 r6 q0 q1 q2 q3 q4 q5 q6 y0 y1 y2 y3 y4 y5 y6
        refine (right_calls (f := plainF f.nm true 2) (p := none) (cap := 0) ((plainS (S := fun _ => True) hnm true (by unfold i64B; omega)).at) (HS.out.below hBYw)).mono ?_
        rintro e W3 ⟨rfl, hb3⟩
        have HB3 := Lib.hid (hBYw.trans (hb3.mono hBYw.size))
        have hBW3 : Below W2.heap.size W2 W3 := hBY.trans (hb3.mono hBY.size)
        have D2 := Lib.hid (C2.out.below hBW3 C2.out.lt)
        have OY := Lib.hid (oY.below hb3 oY.lt)
        have HBW3 := Lib.hid hBW3
        clear hBY hBYw hb3 oY hBW3
        have hl3 := D2.out.lt
        have hl4 := OY.out.lt
        have r0 := OY.out.row 0 _ rfl
        have r1 := OY.out.row 1 _ rfl
        have r2 := OY.out.row 2 _ rfl
        have r3 := OY.out.row 3 _ rfl
        have r4 := OY.out.row 4 _ rfl
        have r5 := OY.out.row 5 _ rfl
        have r6 := OY.out.row 6 _ rfl
        have q0 := D2.out.row 0 _ rfl
        have q1 := D2.out.row 1 _ rfl
        have q2 := D2.out.row 2 _ rfl
        have q3 := D2.out.row 3 _ rfl
        have q4 := D2.out.row 4 _ rfl
        have q5 := D2.out.row 5 _ rfl
        have q6 := D2.out.row 6 _ rfl
        have y0 := D2.out.frozen 0
        have y1 := D2.out.frozen 1
        have y2 := D2.out.frozen 2
        have y3 := D2.out.frozen 3
        have y4 := D2.out.frozen 4
        have y5 := D2.out.frozen 5
        have y6 := D2.out.frozen 6
        rw [may_plain HNN.out true (by decide) (by decide)]
        go_wp2_with fail
        rw [HE.out]
        exact type_back2 (fn := Tryz.f11) (g := plainF f.nm true 2) (rb := w.heap.size + 1) (p := none) (cap := 0) rfl (put7_box (l := [_, _, _, _, _, _, _]) rfl D2.out _ _ _ _ _ _ _) (put7_below HB3.out (by omega) _ _ _ _ _ _ _) ((plainS (S := fun _ => True) hnm true (by unfold i64B; omega)).at) rfl rfl
      · have HE := Lib.hid e
        clear e HR
        go_wp2_with fail
        obtain ⟨Y, hY⟩ : ∃ Y, Y = (W2.alloc (.cells #[Value.string g.nm, Value.bool g.nl, Value.int IntKind.i64 g.k, Value.int IntKind.i64 g.wd, Value.int IntKind.i64 g.id, Value.int IntKind.i64 g.ix, Value.slice bp g.kids.length bc] 28)).alloc (.cells #[Value.string f.nm, Value.bool true, Value.int .i64 2, Value.int .i64 0, Value.int .i64 0, Value.int .i64 0, Value.slice none 0 0] 28) := ⟨_, rfl⟩
        have oY : BoxN Y (W2.heap.size + 1) 28 [Value.string f.nm, Value.bool true, Value.int .i64 2, Value.int .i64 0, Value.int .i64 0, Value.int .i64 0, Value.slice none 0 0] := by
          rw [hY]
          have := BoxN.new (W2.alloc (.cells #[Value.string g.nm, Value.bool g.nl, Value.int IntKind.i64 g.k, Value.int IntKind.i64 g.wd, Value.int IntKind.i64 g.id, Value.int IntKind.i64 g.ix, Value.slice bp g.kids.length bc] 28)) 28 [Value.string f.nm, Value.bool true, Value.int .i64 2, Value.int .i64 0, Value.int .i64 0, Value.int .i64 0, Value.slice none 0 0]
          rwa [World.size_alloc] at this
        have hBY : Below W2.heap.size W2 Y := by rw [hY]; exact ((Below.refl _ W2).alloc (Nat.le_refl _) _).alloc (by simp) _
        have hBYw : Below w.heap.size w Y := HB2.out.trans (hBY.mono HB2.out.size)
        rw [← hY]
        clear hY r0 r1 r2 r3 r4 r5 r6 q0 q1 q2 q3 q4 q5 q6 y0 y1 y2 y3 y4 y5 y6
        refine (right_calls (f := plainF f.nm true 2) (p := none) (cap := 0) ((plainS (S := fun _ => True) hnm true (by unfold i64B; omega)).at) (HS.out.below hBYw)).mono ?_
        rintro e W3 ⟨rfl, hb3⟩
        have HB3 := Lib.hid (hBYw.trans (hb3.mono hBYw.size))
        have hBW3 : Below W2.heap.size W2 W3 := hBY.trans (hb3.mono hBY.size)
        have D2 := Lib.hid (C2.out.below hBW3 C2.out.lt)
        have OY := Lib.hid (oY.below hb3 oY.lt)
        have HBW3 := Lib.hid hBW3
        clear hBY hBYw hb3 oY hBW3
        have hl3 := D2.out.lt
        have hl4 := OY.out.lt
        have r0 := OY.out.row 0 _ rfl
        have r1 := OY.out.row 1 _ rfl
        have r2 := OY.out.row 2 _ rfl
        have r3 := OY.out.row 3 _ rfl
        have r4 := OY.out.row 4 _ rfl
        have r5 := OY.out.row 5 _ rfl
        have r6 := OY.out.row 6 _ rfl
        have q0 := D2.out.row 0 _ rfl
        have q1 := D2.out.row 1 _ rfl
        have q2 := D2.out.row 2 _ rfl
        have q3 := D2.out.row 3 _ rfl
        have q4 := D2.out.row 4 _ rfl
        have q5 := D2.out.row 5 _ rfl
        have q6 := D2.out.row 6 _ rfl
        have y0 := D2.out.frozen 0
        have y1 := D2.out.frozen 1
        have y2 := D2.out.frozen 2
        have y3 := D2.out.frozen 3
        have y4 := D2.out.frozen 4
        have y5 := D2.out.frozen 5
        have y6 := D2.out.frozen 6
        rw [may_plain HNN.out true (by decide) (by decide)]
        go_wp2_with fail
        rw [HE.out]
        exact type_back2 (fn := Tryz.f11) (g := plainF f.nm true 2) (rb := w.heap.size + 1) (p := none) (cap := 0) rfl (put7_box (l := [_, _, _, _, _, _, _]) rfl D2.out _ _ _ _ _ _ _) (put7_below HB3.out (by omega) _ _ _ _ _ _ _) ((plainS (S := fun _ => True) hnm true (by unfold i64B; omega)).at) rfl rfl
    · have e : res = (noF, 5) := by rw [HR.out, if_neg k2]
      have k22 : (g.k == 2) = false := by rw [beq_eq_false_iff_ne]; exact k2
      clear k2
      rcases o8 with rfl | rfl
      · have HE := Lib.hid e
        clear e HR
        go_wp2_with fail
        obtain ⟨Y, hY⟩ : ∃ Y, Y = (W2.alloc (.cells #[Value.string g.nm, Value.bool g.nl, Value.int IntKind.i64 g.k, Value.int IntKind.i64 g.wd, Value.int IntKind.i64 g.id, Value.int IntKind.i64 g.ix, Value.slice bp g.kids.length bc] 28)).alloc (.cells #[Value.string f.nm, Value.bool true, Value.int .i64 0, Value.int .i64 0, Value.int .i64 0, Value.int .i64 0, Value.slice none 0 0] 28) := ⟨_, rfl⟩
        have oY : BoxN Y (W2.heap.size + 1) 28 [Value.string f.nm, Value.bool true, Value.int .i64 0, Value.int .i64 0, Value.int .i64 0, Value.int .i64 0, Value.slice none 0 0] := by
          rw [hY]
          have := BoxN.new (W2.alloc (.cells #[Value.string g.nm, Value.bool g.nl, Value.int IntKind.i64 g.k, Value.int IntKind.i64 g.wd, Value.int IntKind.i64 g.id, Value.int IntKind.i64 g.ix, Value.slice bp g.kids.length bc] 28)) 28 [Value.string f.nm, Value.bool true, Value.int .i64 0, Value.int .i64 0, Value.int .i64 0, Value.int .i64 0, Value.slice none 0 0]
          rwa [World.size_alloc] at this
        have hBY : Below W2.heap.size W2 Y := by rw [hY]; exact ((Below.refl _ W2).alloc (Nat.le_refl _) _).alloc (by simp) _
        have hBYw : Below w.heap.size w Y := HB2.out.trans (hBY.mono HB2.out.size)
        rw [← hY]
        clear hY r0 r1 r2 r3 r4 r5 r6 q0 q1 q2 q3 q4 q5 q6 y0 y1 y2 y3 y4 y5 y6
        refine (right_calls (f := plainF f.nm true 0) (p := none) (cap := 0) ((plainS (S := fun _ => True) hnm true (by unfold i64B; omega)).at) (HS.out.below hBYw)).mono ?_
        rintro e W3 ⟨rfl, hb3⟩
        have HB3 := Lib.hid (hBYw.trans (hb3.mono hBYw.size))
        have hBW3 : Below W2.heap.size W2 W3 := hBY.trans (hb3.mono hBY.size)
        have D2 := Lib.hid (C2.out.below hBW3 C2.out.lt)
        have OY := Lib.hid (oY.below hb3 oY.lt)
        have HBW3 := Lib.hid hBW3
        clear hBY hBYw hb3 oY hBW3
        have hl3 := D2.out.lt
        have hl4 := OY.out.lt
        have r0 := OY.out.row 0 _ rfl
        have r1 := OY.out.row 1 _ rfl
        have r2 := OY.out.row 2 _ rfl
        have r3 := OY.out.row 3 _ rfl
        have r4 := OY.out.row 4 _ rfl
        have r5 := OY.out.row 5 _ rfl
        have r6 := OY.out.row 6 _ rfl
        have q0 := D2.out.row 0 _ rfl
        have q1 := D2.out.row 1 _ rfl
        have q2 := D2.out.row 2 _ rfl
        have q3 := D2.out.row 3 _ rfl
        have q4 := D2.out.row 4 _ rfl
        have q5 := D2.out.row 5 _ rfl
        have q6 := D2.out.row 6 _ rfl
        have y0 := D2.out.frozen 0
        have y1 := D2.out.frozen 1
        have y2 := D2.out.frozen 2
        have y3 := D2.out.frozen 3
        have y4 := D2.out.frozen 4
        have y5 := D2.out.frozen 5
        have y6 := D2.out.frozen 6
        rw [may_none HNN.out true]
        go_wp2_with fail
        rw [HE.out]
        exact type_back2 (fn := Tryz.f11) (g := noF) (rb := w.heap.size + 1) (p := none) (cap := 0) rfl (put7_box (l := [_, _, _, _, _, _, _]) rfl D2.out _ _ _ _ _ _ _) (put7_below HB3.out (by omega) _ _ _ _ _ _ _) ((plainS (S := fun _ => True) (nm := ⟨#[]⟩) (by decide) false (by unfold i64B; omega)).at) rfl rfl
      · have HE := Lib.hid e
        clear e HR
        go_wp2_with fail
        obtain ⟨Y, hY⟩ : ∃ Y, Y = (W2.alloc (.cells #[Value.string g.nm, Value.bool g.nl, Value.int IntKind.i64 g.k, Value.int IntKind.i64 g.wd, Value.int IntKind.i64 g.id, Value.int IntKind.i64 g.ix, Value.slice bp g.kids.length bc] 28)).alloc (.cells #[Value.string f.nm, Value.bool true, Value.int .i64 0, Value.int .i64 0, Value.int .i64 0, Value.int .i64 0, Value.slice none 0 0] 28) := ⟨_, rfl⟩
        have oY : BoxN Y (W2.heap.size + 1) 28 [Value.string f.nm, Value.bool true, Value.int .i64 0, Value.int .i64 0, Value.int .i64 0, Value.int .i64 0, Value.slice none 0 0] := by
          rw [hY]
          have := BoxN.new (W2.alloc (.cells #[Value.string g.nm, Value.bool g.nl, Value.int IntKind.i64 g.k, Value.int IntKind.i64 g.wd, Value.int IntKind.i64 g.id, Value.int IntKind.i64 g.ix, Value.slice bp g.kids.length bc] 28)) 28 [Value.string f.nm, Value.bool true, Value.int .i64 0, Value.int .i64 0, Value.int .i64 0, Value.int .i64 0, Value.slice none 0 0]
          rwa [World.size_alloc] at this
        have hBY : Below W2.heap.size W2 Y := by rw [hY]; exact ((Below.refl _ W2).alloc (Nat.le_refl _) _).alloc (by simp) _
        have hBYw : Below w.heap.size w Y := HB2.out.trans (hBY.mono HB2.out.size)
        rw [← hY]
        clear hY r0 r1 r2 r3 r4 r5 r6 q0 q1 q2 q3 q4 q5 q6 y0 y1 y2 y3 y4 y5 y6
        refine (right_calls (f := plainF f.nm true 0) (p := none) (cap := 0) ((plainS (S := fun _ => True) hnm true (by unfold i64B; omega)).at) (HS.out.below hBYw)).mono ?_
        rintro e W3 ⟨rfl, hb3⟩
        have HB3 := Lib.hid (hBYw.trans (hb3.mono hBYw.size))
        have hBW3 : Below W2.heap.size W2 W3 := hBY.trans (hb3.mono hBY.size)
        have D2 := Lib.hid (C2.out.below hBW3 C2.out.lt)
        have OY := Lib.hid (oY.below hb3 oY.lt)
        have HBW3 := Lib.hid hBW3
        clear hBY hBYw hb3 oY hBW3
        have hl3 := D2.out.lt
        have hl4 := OY.out.lt
        have r0 := OY.out.row 0 _ rfl
        have r1 := OY.out.row 1 _ rfl
        have r2 := OY.out.row 2 _ rfl
        have r3 := OY.out.row 3 _ rfl
        have r4 := OY.out.row 4 _ rfl
        have r5 := OY.out.row 5 _ rfl
        have r6 := OY.out.row 6 _ rfl
        have q0 := D2.out.row 0 _ rfl
        have q1 := D2.out.row 1 _ rfl
        have q2 := D2.out.row 2 _ rfl
        have q3 := D2.out.row 3 _ rfl
        have q4 := D2.out.row 4 _ rfl
        have q5 := D2.out.row 5 _ rfl
        have q6 := D2.out.row 6 _ rfl
        have y0 := D2.out.frozen 0
        have y1 := D2.out.frozen 1
        have y2 := D2.out.frozen 2
        have y3 := D2.out.frozen 3
        have y4 := D2.out.frozen 4
        have y5 := D2.out.frozen 5
        have y6 := D2.out.frozen 6
        rw [may_none HNN.out true]
        go_wp2_with fail
        rw [HE.out]
        exact type_back2 (fn := Tryz.f11) (g := noF) (rb := w.heap.size + 1) (p := none) (cap := 0) rfl (put7_box (l := [_, _, _, _, _, _, _]) rfl D2.out _ _ _ _ _ _ _) (put7_below HB3.out (by omega) _ _ _ _ _ _ _) ((plainS (S := fun _ => True) (nm := ⟨#[]⟩) (by decide) false (by unfold i64B; omega)).at) rfl rfl
  have e : res = (noF, 1) := by rw [HR.out, if_neg o8]
  have HE := Lib.hid e
  have n4 : (op == 4) = false := by rw [beq_eq_false_iff_ne]; omega
  have n5 : (op == 5) = false := by rw [beq_eq_false_iff_ne]; omega
  have n6 : (op == 6) = false := by rw [beq_eq_false_iff_ne]; omega
  have n7 : (op == 7) = false := by rw [beq_eq_false_iff_ne]; omega
  have n8 : (op == 8) = false := by rw [beq_eq_false_iff_ne]; omega
  have n9 : (op == 9) = false := by rw [beq_eq_false_iff_ne]; omega
  clear e HR o3 o4 o8
  go_wp2_with fail
  rw [HE.out]
  exact type_back2 (fn := Tryz.f11) (g := noF) (rb := w.heap.size + 1) (p := none) (cap := 0) rfl (((put7_box (l := [_, _, _, _, _, _, _]) rfl C2.out _ _ _ _ _ _ _).alloc _).alloc _) (((put7_below HB2.out (by omega) _ _ _ _ _ _ _).alloc (by have := HB2.out.size; simp [put7]; omega) _).alloc (by have := HB2.out.size; simp [put7]; omega) _) (plainS (S := fun _ => True) (nm := ⟨#[]⟩) (by decide) false (by unfold i64B; omega)).at rfl rfl

end Go.Fld
