import Derived.Test.YtcllfbhlnjgomaaGreatDoorFu
set_option linter.unusedVariables false
set_option maxRecDepth 100000
/-!
  WHAT AN AGGREGATE COMES TO: the reference's Type. No conditions.
-/
namespace Go.Fld
open Go Go.RowKit Go.Proofs Go.ChangeShapes Go.WideShapes Go.ChangeAt Go.Shelf

theorem rbare_calls' (f : Fd) (ho : okF f) (w : World) (p : Option Addr) (cap : Nat) (hf : FdAt w f [.string f.nm, .bool f.nl, .int .i64 f.k, .int .i64 f.wd, .int .i64 f.id, .int .i64 f.ix, .slice p f.kids.length cap]) : Calls Tryz.prog 23 #[.agg #[.string f.nm, .bool f.nl, .int .i64 f.k, .int .i64 f.wd, .int .i64 f.id, .int .i64 f.ix, .slice p f.kids.length cap]] w (FieldPost w (bareF f)) := by
  have h := rbare_calls f ho f.nm f.nl w p cap
  rw [show f.named f.nm f.nl = f by cases f; rfl] at h
  exact h hf

set_option maxHeartbeats 4000000 in
theorem rtype_calls {w : World} {f : Fd} {p : Option Addr} {cap : Nat} (op : Int) (hop : i64B op) (hf : FdAt w f [.string f.nm, .bool f.nl, .int .i64 f.k, .int .i64 f.wd, .int .i64 f.id, .int .i64 f.ix, .slice p f.kids.length cap]) :
    Calls Tryz.prog 12 #[.int .i64 op, .agg #[.string f.nm, .bool f.nl, .int .i64 f.k, .int .i64 f.wd, .int .i64 f.id, .int .i64 f.ix, .slice p f.kids.length cap]] w (TypePost w (typeF op f)) := by
  obtain ⟨p', cap', hcs, hk, hnm, ik, iw, ii, ix'⟩ := hf.shape
  cases hcs
  have HF := Lib.hid hf
  clear hf hk
  obtain ⟨W, hW⟩ : ∃ W, W = (w.alloc (.cells #[.string f.nm, .bool f.nl, .int .i64 f.k, .int .i64 f.wd, .int .i64 f.id, .int .i64 f.ix, .slice p f.kids.length cap] 28)).alloc (.cells #[Value.string ⟨#[]⟩, Value.bool false, Value.int .i64 0, Value.int .i64 0, Value.int .i64 0, Value.int .i64 0, Value.slice none 0 0] 28) := ⟨_, rfl⟩
  have a1 : BoxN W w.heap.size 28 [.string f.nm, .bool f.nl, .int .i64 f.k, .int .i64 f.wd, .int .i64 f.id, .int .i64 f.ix, .slice p f.kids.length cap] := by
    rw [hW]
    exact (BoxN.new w 28 [.string f.nm, .bool f.nl, .int .i64 f.k, .int .i64 f.wd, .int .i64 f.id, .int .i64 f.ix, .slice p f.kids.length cap]).alloc _
  have a2 : BoxN W (w.heap.size + 1) 28 [.string ⟨#[]⟩, .bool false, .int .i64 0, .int .i64 0, .int .i64 0, .int .i64 0, .slice none 0 0] := by
    rw [hW]
    have := BoxN.new (w.alloc (.cells #[.string f.nm, .bool f.nl, .int .i64 f.k, .int .i64 f.wd, .int .i64 f.id, .int .i64 f.ix, .slice p f.kids.length cap] 28)) 28 [.string ⟨#[]⟩, .bool false, .int .i64 0, .int .i64 0, .int .i64 0, .int .i64 0, .slice none 0 0]
    rwa [World.size_alloc] at this
  have hBW : Below w.heap.size w W := by rw [hW]; exact ((Below.refl _ w).alloc (Nat.le_refl _) _).alloc (by simp) _
  have hWs : W.heap.size = w.heap.size + 2 := by rw [hW]; simp
  have A1 := Lib.hid a1
  have A2 := Lib.hid a2
  have HBW := Lib.hid hBW
  have HWS := Lib.hid hWs
  have HW := Lib.hid hW
  clear a1 a2 hBW hWs hW
  obtain ⟨res, hres⟩ : ∃ r, r = typeF op f := ⟨_, rfl⟩
  rw [← hres]
  unfold typeF at hres
  have HR := Lib.hid hres
  clear hres
  go_enter Tryz.func12, Tryz.ntmps12
  go_wp2_with fail
  rw [← HW.out]
  clear HW
  refine (rright_calls (HF.out.below HBW.out)).mono ?_
  rintro e W1 ⟨rfl, hb1⟩
  have HM := Lib.hid (show mayB f = mayB f from rfl)
  obtain ⟨mb, hmb⟩ : ∃ b, b = mayB f := ⟨_, rfl⟩
  rw [← hmb] at HR ⊢
  have HMB := Lib.hid hmb
  have HB1 := Lib.hid (HBW.out.trans (hb1.mono HBW.out.size))
  have B1 := Lib.hid (A1.out.below hb1 A1.out.lt)
  have B2 := Lib.hid (A2.out.below hb1 A2.out.lt)
  clear hmb hb1 HM
  have hl1 := B2.out.lt
  have hl10 := B1.out.lt
  have r0 := B1.out.row 0 _ rfl
  have r1 := B1.out.row 1 _ rfl
  have r2 := B1.out.row 2 _ rfl
  have r3 := B1.out.row 3 _ rfl
  have r4 := B1.out.row 4 _ rfl
  have r5 := B1.out.row 5 _ rfl
  have r6 := B1.out.row 6 _ rfl
  have q0 := B2.out.row 0 _ rfl
  have q1 := B2.out.row 1 _ rfl
  have q2 := B2.out.row 2 _ rfl
  have q3 := B2.out.row 3 _ rfl
  have q4 := B2.out.row 4 _ rfl
  have q5 := B2.out.row 5 _ rfl
  have q6 := B2.out.row 6 _ rfl
  have y0 := B2.out.frozen 0
  have y1 := B2.out.frozen 1
  have y2 := B2.out.frozen 2
  have y3 := B2.out.frozen 3
  have y4 := B2.out.frozen 4
  have y5 := B2.out.frozen 5
  have y6 := B2.out.frozen 6
  cases mb with
  | false =>
    have e : res = (noF, 5) := by rw [HR.out, if_pos rfl]
    have HE := Lib.hid e
    clear e
    go_wp2_with fail
    rw [HE.out]
    exact type_back (fn := Tryz.f12) (g := noF) rfl (l := [_, _, _, _, _, _, _]) rfl B2.out (by omega) HB1.out (S := fun _ => False) (fun b h => h.elim) (plainS (nm := ⟨#[]⟩) (by decide) false (k := 0) (by unfold i64B; omega)) rfl rfl
  | true =>
  replace HR := Lib.hid (show _ from by have := HR.out; rw [if_neg (by decide)] at this; exact this)
  unfold i64B at hop
  by_cases hr : 1 ≤ op ∧ op ≤ 9
  rotate_left
  · have e : res = (noF, 1) := by rw [HR.out, if_neg (by omega), if_neg (by omega), if_neg (by omega), if_neg (by omega)]
    have HE := Lib.hid e
    clear e HR
    rcases (show op < 1 ∨ 9 < op by omega) with ho | ho <;>
    (clear hr
     go_wp2_with fail
     rw [HE.out]
     exact type_back (fn := Tryz.f12) (g := noF) rfl (l := [_, _, _, _, _, _, _]) rfl B2.out (by omega) HB1.out (S := fun _ => False) (fun b h => h.elim) (plainS (nm := ⟨#[]⟩) (by decide) false (k := 0) (by unfold i64B; omega)) rfl rfl)
  obtain ⟨hr1, hr2⟩ := hr
  go_wp2_with fail
  refine (rbare_calls' f (okF_of_may (by rw [← HMB.out])) W1 p cap (HF.out.below HB1.out)).mono ?_
  rintro e W2 ⟨bp, bc, rfl, hfd, hb2⟩
  have hnme := bareF_nm f
  obtain ⟨g, hg⟩ : ∃ g, g = bareF f := ⟨_, rfl⟩
  rw [← hg] at hfd hnme HR ⊢
  obtain ⟨gp, gcap, hgc, hgk, hgnm, gik, giw, gii, gix⟩ := hfd.at.shape
  cases hgc
  have HG := Lib.hid hg
  have HFD := Lib.hid hfd
  have HB2 := Lib.hid (HB1.out.trans (hb2.mono HB1.out.size))
  have C1 := Lib.hid (B1.out.below hb2 B1.out.lt)
  have C2 := Lib.hid (B2.out.below hb2 B2.out.lt)
  have HGNM := Lib.hid hnme
  have hs2 := hb2.size
  clear hg hfd hb2 hnme hgk r0 r1 r2 r3 r4 r5 r6 q0 q1 q2 q3 q4 q5 q6 y0 y1 y2 y3 y4 y5 y6
  have hl2 := C2.out.lt
  have hl20 := C1.out.lt
  have r0 := C1.out.row 0 _ rfl
  have r1 := C1.out.row 1 _ rfl
  have r2 := C1.out.row 2 _ rfl
  have r3 := C1.out.row 3 _ rfl
  have r4 := C1.out.row 4 _ rfl
  have r5 := C1.out.row 5 _ rfl
  have r6 := C1.out.row 6 _ rfl
  have q0 := C2.out.row 0 _ rfl
  have q1 := C2.out.row 1 _ rfl
  have q2 := C2.out.row 2 _ rfl
  have q3 := C2.out.row 3 _ rfl
  have q4 := C2.out.row 4 _ rfl
  have q5 := C2.out.row 5 _ rfl
  have q6 := C2.out.row 6 _ rfl
  have y0 := C2.out.frozen 0
  have y1 := C2.out.frozen 1
  have y2 := C2.out.frozen 2
  have y3 := C2.out.frozen 3
  have y4 := C2.out.frozen 4
  have y5 := C2.out.frozen 5
  have y6 := C2.out.frozen 6
  have hnn := name_of_may (f := f) (by rw [← HMB.out])
  have HNN := Lib.hid hnn
  clear hnn
  unfold i64B at gik
  by_cases o1 : op = 1 ∨ op = 2
  · have e : res = (plainF f.nm false 6, 0) := by rw [HR.out, if_pos o1]
    clear hr1 hr2
    rcases o1 with rfl | rfl
    · have HE := Lib.hid e
      clear e HR
      go_wp2_with fail
      rw [HE.out]
      exact type_back2 (fn := Tryz.f12) (g := plainF f.nm false 6) (rb := w.heap.size + 1) (p := none) (cap := 0) rfl (((put7_box (l := [_, _, _, _, _, _, _]) rfl C2.out _ _ _ _ _ _ _).alloc _).alloc _) (((put7_below HB2.out (by omega) _ _ _ _ _ _ _).alloc (by have := HB2.out.size; simp [put7]; omega) _).alloc (by have := HB2.out.size; simp [put7]; omega) _) (plainS (S := fun _ => True) hnm false (by unfold i64B; omega)).at rfl rfl
    · have HE := Lib.hid e
      clear e HR
      go_wp2_with fail
      rw [HE.out]
      exact type_back2 (fn := Tryz.f12) (g := plainF f.nm false 6) (rb := w.heap.size + 1) (p := none) (cap := 0) rfl (((put7_box (l := [_, _, _, _, _, _, _]) rfl C2.out _ _ _ _ _ _ _).alloc _).alloc _) (((put7_below HB2.out (by omega) _ _ _ _ _ _ _).alloc (by have := HB2.out.size; simp [put7]; omega) _).alloc (by have := HB2.out.size; simp [put7]; omega) _) (plainS (S := fun _ => True) hnm false (by unfold i64B; omega)).at rfl rfl
  replace HR := Lib.hid (show _ from by have := HR.out; rw [if_neg o1] at this; exact this)
  by_cases o3 : op = 3
  · replace HR := Lib.hid (show _ from by have := HR.out; rw [if_pos o3] at this; exact this)
    subst o3
    clear o1 hr1 hr2
    by_cases ka : 3 ≤ g.k ∧ g.k ≤ 6
    · have e : res = (plainF f.nm true 6, 0) := by rw [HR.out, if_pos ka]
      have HE := Lib.hid e
      clear e HR
      go_wp2_with fail
      rw [HE.out]
      exact type_back2 (fn := Tryz.f12) (g := plainF f.nm true 6) (rb := w.heap.size + 1) (p := none) (cap := 0) rfl (((put7_box (l := [_, _, _, _, _, _, _]) rfl C2.out _ _ _ _ _ _ _).alloc _).alloc _) (((put7_below HB2.out (by omega) _ _ _ _ _ _ _).alloc (by have := HB2.out.size; simp [put7]; omega) _).alloc (by have := HB2.out.size; simp [put7]; omega) _) (plainS (S := fun _ => True) hnm true (by unfold i64B; omega)).at rfl rfl
    by_cases kb : 7 ≤ g.k ∧ g.k ≤ 10
    · have e : res = (plainF f.nm true 10, 0) := by rw [HR.out, if_neg ka, if_pos kb]
      clear ka
      have HE := Lib.hid e
      clear e HR
      go_wp2_with fail
      rw [HE.out]
      exact type_back2 (fn := Tryz.f12) (g := plainF f.nm true 10) (rb := w.heap.size + 1) (p := none) (cap := 0) rfl (((put7_box (l := [_, _, _, _, _, _, _]) rfl C2.out _ _ _ _ _ _ _).alloc _).alloc _) (((put7_below HB2.out (by omega) _ _ _ _ _ _ _).alloc (by have := HB2.out.size; simp [put7]; omega) _).alloc (by have := HB2.out.size; simp [put7]; omega) _) (plainS (S := fun _ => True) hnm true (by unfold i64B; omega)).at rfl rfl
    by_cases kc : g.k = 11
    · have e : res = (plainF f.nm true 11, 0) := by rw [HR.out, if_neg ka, if_neg kb, if_pos kc]
      have k11 : (g.k == 11) = true := by rw [kc]; rfl
      have k12 : 11 ≤ g.k := by omega
      clear ka kb kc
      have HE := Lib.hid e
      clear e HR
      go_wp2_with fail
      rw [HE.out]
      exact type_back2 (fn := Tryz.f12) (g := plainF f.nm true 11) (rb := w.heap.size + 1) (p := none) (cap := 0) rfl (((put7_box (l := [_, _, _, _, _, _, _]) rfl C2.out _ _ _ _ _ _ _).alloc _).alloc _) (((put7_below HB2.out (by omega) _ _ _ _ _ _ _).alloc (by have := HB2.out.size; simp [put7]; omega) _).alloc (by have := HB2.out.size; simp [put7]; omega) _) (plainS (S := fun _ => True) hnm true (by unfold i64B; omega)).at rfl rfl
    · have e : res = (noF, 5) := by rw [HR.out, if_neg ka, if_neg kb, if_neg kc]
      have k11 : (g.k == 11) = false := by rw [beq_eq_false_iff_ne]; exact kc
      rcases (show g.k < 3 ∨ 12 ≤ g.k by omega) with kx | kx
      · clear ka kb kc
        have HE := Lib.hid e
        clear e HR
        go_wp2_with fail
        rw [HE.out]
        exact type_back2 (fn := Tryz.f12) (g := noF) (rb := w.heap.size + 1) (p := none) (cap := 0) rfl (((put7_box (l := [_, _, _, _, _, _, _]) rfl C2.out _ _ _ _ _ _ _).alloc _).alloc _) (((put7_below HB2.out (by omega) _ _ _ _ _ _ _).alloc (by have := HB2.out.size; simp [put7]; omega) _).alloc (by have := HB2.out.size; simp [put7]; omega) _) (plainS (S := fun _ => True) (nm := ⟨#[]⟩) (by decide) false (by unfold i64B; omega)).at rfl rfl
      · clear ka kb kc
        have HE := Lib.hid e
        clear e HR
        go_wp2_with fail
        rw [HE.out]
        exact type_back2 (fn := Tryz.f12) (g := noF) (rb := w.heap.size + 1) (p := none) (cap := 0) rfl (((put7_box (l := [_, _, _, _, _, _, _]) rfl C2.out _ _ _ _ _ _ _).alloc _).alloc _) (((put7_below HB2.out (by omega) _ _ _ _ _ _ _).alloc (by have := HB2.out.size; simp [put7]; omega) _).alloc (by have := HB2.out.size; simp [put7]; omega) _) (plainS (S := fun _ => True) (nm := ⟨#[]⟩) (by decide) false (by unfold i64B; omega)).at rfl rfl
  replace HR := Lib.hid (show _ from by have := HR.out; rw [if_neg o3] at this; exact this)
  by_cases o4 : 4 ≤ op ∧ op ≤ 7
  · replace HR := Lib.hid (show _ from by have := HR.out; rw [if_pos o4] at this; exact this)
    have hor : op = 4 ∨ op = 5 ∨ op = 6 ∨ op = 7 := by omega
    clear o4 o3 o1 hop hr1 hr2
    cases hm2 : mayB (g.named f.nm true) with
    | true =>
      have e : res = (g.named f.nm true, 0) := by rw [HR.out, if_pos hm2]
      have HM2 := Lib.hid hm2
      clear hm2
      rcases hor with rfl | rfl | rfl | rfl
      · have HE := Lib.hid e
        clear e HR
        go_wp2_with fail
        obtain ⟨Y, hY⟩ : ∃ Y, Y = (W2.alloc (.cells #[Value.string g.nm, Value.bool g.nl, Value.int IntKind.i64 g.k, Value.int IntKind.i64 g.wd, Value.int IntKind.i64 g.id, Value.int IntKind.i64 g.ix, Value.slice bp g.kids.length bc] 28)).alloc (.cells #[Value.string f.nm, Value.bool true, Value.int .i64 g.k, Value.int .i64 g.wd, Value.int .i64 g.id, Value.int .i64 g.ix, Value.slice bp g.kids.length bc] 28) := ⟨_, rfl⟩
        have oY : BoxN Y (W2.heap.size + 1) 28 [Value.string f.nm, Value.bool true, Value.int .i64 g.k, Value.int .i64 g.wd, Value.int .i64 g.id, Value.int .i64 g.ix, Value.slice bp g.kids.length bc] := by
          rw [hY]
          have := BoxN.new (W2.alloc (.cells #[Value.string g.nm, Value.bool g.nl, Value.int IntKind.i64 g.k, Value.int IntKind.i64 g.wd, Value.int IntKind.i64 g.id, Value.int IntKind.i64 g.ix, Value.slice bp g.kids.length bc] 28)) 28 [Value.string f.nm, Value.bool true, Value.int .i64 g.k, Value.int .i64 g.wd, Value.int .i64 g.id, Value.int .i64 g.ix, Value.slice bp g.kids.length bc]
          rwa [World.size_alloc] at this
        have hBY : Below W2.heap.size W2 Y := by rw [hY]; exact ((Below.refl _ W2).alloc (Nat.le_refl _) _).alloc (by simp) _
        have hBYw : Below w.heap.size w Y := HB2.out.trans (hBY.mono HB2.out.size)
        rw [← hY]
        clear hY r0 r1 r2 r3 r4 r5 r6 q0 q1 q2 q3 q4 q5 q6 y0 y1 y2 y3 y4 y5 y6
        refine (rright_calls (f := g.named f.nm true) (p := bp) (cap := bc) ((HFD.out.at.below hBY).named hnm true)).mono ?_
        rintro e W3 ⟨rfl, hb3⟩
        have HB3 := Lib.hid (hBYw.trans (hb3.mono hBYw.size))
        have hBW3 : Below W2.heap.size W2 W3 := hBY.trans (hb3.mono hBY.size)
        have D2 := Lib.hid (C2.out.below hBW3 C2.out.lt)
        have OY := Lib.hid (oY.below hb3 oY.lt)
        have HBW3 := Lib.hid hBW3
        clear hBY hBYw hb3 oY hBW3
        have hl3 := D2.out.lt
        have hl4 := OY.out.lt
        have r0 := OY.out.row 0 _ rfl
        have r1 := OY.out.row 1 _ rfl
        have r2 := OY.out.row 2 _ rfl
        have r3 := OY.out.row 3 _ rfl
        have r4 := OY.out.row 4 _ rfl
        have r5 := OY.out.row 5 _ rfl
        have r6 := OY.out.row 6 _ rfl
        have q0 := D2.out.row 0 _ rfl
        have q1 := D2.out.row 1 _ rfl
        have q2 := D2.out.row 2 _ rfl
        have q3 := D2.out.row 3 _ rfl
        have q4 := D2.out.row 4 _ rfl
        have q5 := D2.out.row 5 _ rfl
        have q6 := D2.out.row 6 _ rfl
        have y0 := D2.out.frozen 0
        have y1 := D2.out.frozen 1
        have y2 := D2.out.frozen 2
        have y3 := D2.out.frozen 3
        have y4 := D2.out.frozen 4
        have y5 := D2.out.frozen 5
        have y6 := D2.out.frozen 6
        rw [HM2.out]
        go_wp2_with fail
        rw [HE.out]
        exact type_back2 (fn := Tryz.f12) (g := g.named f.nm true) (rb := w.heap.size + 1) (p := bp) (cap := bc) rfl (put7_box (l := [_, _, _, _, _, _, _]) rfl D2.out _ _ _ _ _ _ _) (put7_below HB3.out (by omega) _ _ _ _ _ _ _) (((((HFD.out.below HBW3.out).named hnm true).put7 (fun b hb => by have hb' : W1.heap.size ≤ b := hb; omega) _ _ _ _ _ _ _)).at) rfl rfl
      · have HE := Lib.hid e
        clear e HR
        go_wp2_with fail
        obtain ⟨Y, hY⟩ : ∃ Y, Y = (W2.alloc (.cells #[Value.string g.nm, Value.bool g.nl, Value.int IntKind.i64 g.k, Value.int IntKind.i64 g.wd, Value.int IntKind.i64 g.id, Value.int IntKind.i64 g.ix, Value.slice bp g.kids.length bc] 28)).alloc (.cells #[Value.string f.nm, Value.bool true, Value.int .i64 g.k, Value.int .i64 g.wd, Value.int .i64 g.id, Value.int .i64 g.ix, Value.slice bp g.kids.length bc] 28) := ⟨_, rfl⟩
        have oY : BoxN Y (W2.heap.size + 1) 28 [Value.string f.nm, Value.bool true, Value.int .i64 g.k, Value.int .i64 g.wd, Value.int .i64 g.id, Value.int .i64 g.ix, Value.slice bp g.kids.length bc] := by
          rw [hY]
          have := BoxN.new (W2.alloc (.cells #[Value.string g.nm, Value.bool g.nl, Value.int IntKind.i64 g.k, Value.int IntKind.i64 g.wd, Value.int IntKind.i64 g.id, Value.int IntKind.i64 g.ix, Value.slice bp g.kids.length bc] 28)) 28 [Value.string f.nm, Value.bool true, Value.int .i64 g.k, Value.int .i64 g.wd, Value.int .i64 g.id, Value.int .i64 g.ix, Value.slice bp g.kids.length bc]
          rwa [World.size_alloc] at this
        have hBY : Below W2.heap.size W2 Y := by rw [hY]; exact ((Below.refl _ W2).alloc (Nat.le_refl _) _).alloc (by simp) _
        have hBYw : Below w.heap.size w Y := HB2.out.trans (hBY.mono HB2.out.size)
        rw [← hY]
        clear hY r0 r1 r2 r3 r4 r5 r6 q0 q1 q2 q3 q4 q5 q6 y0 y1 y2 y3 y4 y5 y6
        refine (rright_calls (f := g.named f.nm true) (p := bp) (cap := bc) ((HFD.out.at.below hBY).named hnm true)).mono ?_
        rintro e W3 ⟨rfl, hb3⟩
        have HB3 := Lib.hid (hBYw.trans (hb3.mono hBYw.size))
        have hBW3 : Below W2.heap.size W2 W3 := hBY.trans (hb3.mono hBY.size)
        have D2 := Lib.hid (C2.out.below hBW3 C2.out.lt)
        have OY := Lib.hid (oY.below hb3 oY.lt)
        have HBW3 := Lib.hid hBW3
        clear hBY hBYw hb3 oY hBW3
        have hl3 := D2.out.lt
        have hl4 := OY.out.lt
        have r0 := OY.out.row 0 _ rfl
        have r1 := OY.out.row 1 _ rfl
        have r2 := OY.out.row 2 _ rfl
        have r3 := OY.out.row 3 _ rfl
        have r4 := OY.out.row 4 _ rfl
        have r5 := OY.out.row 5 _ rfl
        have r6 := OY.out.row 6 _ rfl
        have q0 := D2.out.row 0 _ rfl
        have q1 := D2.out.row 1 _ rfl
        have q2 := D2.out.row 2 _ rfl
        have q3 := D2.out.row 3 _ rfl
        have q4 := D2.out.row 4 _ rfl
        have q5 := D2.out.row 5 _ rfl
        have q6 := D2.out.row 6 _ rfl
        have y0 := D2.out.frozen 0
        have y1 := D2.out.frozen 1
        have y2 := D2.out.frozen 2
        have y3 := D2.out.frozen 3
        have y4 := D2.out.frozen 4
        have y5 := D2.out.frozen 5
        have y6 := D2.out.frozen 6
        rw [HM2.out]
        go_wp2_with fail
        rw [HE.out]
        exact type_back2 (fn := Tryz.f12) (g := g.named f.nm true) (rb := w.heap.size + 1) (p := bp) (cap := bc) rfl (put7_box (l := [_, _, _, _, _, _, _]) rfl D2.out _ _ _ _ _ _ _) (put7_below HB3.out (by omega) _ _ _ _ _ _ _) (((((HFD.out.below HBW3.out).named hnm true).put7 (fun b hb => by have hb' : W1.heap.size ≤ b := hb; omega) _ _ _ _ _ _ _)).at) rfl rfl
      · have HE := Lib.hid e
        clear e HR
        go_wp2_with fail
        obtain ⟨Y, hY⟩ : ∃ Y, Y = (W2.alloc (.cells #[Value.string g.nm, Value.bool g.nl, Value.int IntKind.i64 g.k, Value.int IntKind.i64 g.wd, Value.int IntKind.i64 g.id, Value.int IntKind.i64 g.ix, Value.slice bp g.kids.length bc] 28)).alloc (.cells #[Value.string f.nm, Value.bool true, Value.int .i64 g.k, Value.int .i64 g.wd, Value.int .i64 g.id, Value.int .i64 g.ix, Value.slice bp g.kids.length bc] 28) := ⟨_, rfl⟩
        have oY : BoxN Y (W2.heap.size + 1) 28 [Value.string f.nm, Value.bool true, Value.int .i64 g.k, Value.int .i64 g.wd, Value.int .i64 g.id, Value.int .i64 g.ix, Value.slice bp g.kids.length bc] := by
          rw [hY]
          have := BoxN.new (W2.alloc (.cells #[Value.string g.nm, Value.bool g.nl, Value.int IntKind.i64 g.k, Value.int IntKind.i64 g.wd, Value.int IntKind.i64 g.id, Value.int IntKind.i64 g.ix, Value.slice bp g.kids.length bc] 28)) 28 [Value.string f.nm, Value.bool true, Value.int .i64 g.k, Value.int .i64 g.wd, Value.int .i64 g.id, Value.int .i64 g.ix, Value.slice bp g.kids.length bc]
          rwa [World.size_alloc] at this
        have hBY : Below W2.heap.size W2 Y := by rw [hY]; exact ((Below.refl _ W2).alloc (Nat.le_refl _) _).alloc (by simp) _
        have hBYw : Below w.heap.size w Y := HB2.out.trans (hBY.mono HB2.out.size)
        rw [← hY]
        clear hY r0 r1 r2 r3 r4 r5 r6 q0 q1 q2 q3 q4 q5 q6 y0 y1 y2 y3 y4 y5 y6
        refine (rright_calls (f := g.named f.nm true) (p := bp) (cap := bc) ((HFD.out.at.below hBY).named hnm true)).mono ?_
        rintro e W3 ⟨rfl, hb3⟩
        have HB3 := Lib.hid (hBYw.trans (hb3.mono hBYw.size))
        have hBW3 : Below W2.heap.size W2 W3 := hBY.trans (hb3.mono hBY.size)
        have D2 := Lib.hid (C2.out.below hBW3 C2.out.lt)
        have OY := Lib.hid (oY.below hb3 oY.lt)
        have HBW3 := Lib.hid hBW3
        clear hBY hBYw hb3 oY hBW3
        have hl3 := D2.out.lt
        have hl4 := OY.out.lt
        have r0 := OY.out.row 0 _ rfl
        have r1 := OY.out.row 1 _ rfl
        have r2 := OY.out.row 2 _ rfl
        have r3 := OY.out.row 3 _ rfl
        have r4 := OY.out.row 4 _ rfl
        have r5 := OY.out.row 5 _ rfl
        have r6 := OY.out.row 6 _ rfl
        have q0 := D2.out.row 0 _ rfl
        have q1 := D2.out.row 1 _ rfl
        have q2 := D2.out.row 2 _ rfl
        have q3 := D2.out.row 3 _ rfl
        have q4 := D2.out.row 4 _ rfl
        have q5 := D2.out.row 5 _ rfl
        have q6 := D2.out.row 6 _ rfl
        have y0 := D2.out.frozen 0
        have y1 := D2.out.frozen 1
        have y2 := D2.out.frozen 2
        have y3 := D2.out.frozen 3
        have y4 := D2.out.frozen 4
        have y5 := D2.out.frozen 5
        have y6 := D2.out.frozen 6
        rw [HM2.out]
        go_wp2_with fail
        rw [HE.out]
        exact type_back2 (fn := Tryz.f12) (g := g.named f.nm true) (rb := w.heap.size + 1) (p := bp) (cap := bc) rfl (put7_box (l := [_, _, _, _, _, _, _]) rfl D2.out _ _ _ _ _ _ _) (put7_below HB3.out (by omega) _ _ _ _ _ _ _) (((((HFD.out.below HBW3.out).named hnm true).put7 (fun b hb => by have hb' : W1.heap.size ≤ b := hb; omega) _ _ _ _ _ _ _)).at) rfl rfl
      · have HE := Lib.hid e
        clear e HR
        go_wp2_with fail
        obtain ⟨Y, hY⟩ : ∃ Y, Y = (W2.alloc (.cells #[Value.string g.nm, Value.bool g.nl, Value.int IntKind.i64 g.k, Value.int IntKind.i64 g.wd, Value.int IntKind.i64 g.id, Value.int IntKind.i64 g.ix, Value.slice bp g.kids.length bc] 28)).alloc (.cells #[Value.string f.nm, Value.bool true, Value.int .i64 g.k, Value.int .i64 g.wd, Value.int .i64 g.id, Value.int .i64 g.ix, Value.slice bp g.kids.length bc] 28) := ⟨_, rfl⟩
        have oY : BoxN Y (W2.heap.size + 1) 28 [Value.string f.nm, Value.bool true, Value.int .i64 g.k, Value.int .i64 g.wd, Value.int .i64 g.id, Value.int .i64 g.ix, Value.slice bp g.kids.length bc] := by
          rw [hY]
          have := BoxN.new (W2.alloc (.cells #[Value.string g.nm, Value.bool g.nl, Value.int IntKind.i64 g.k, Value.int IntKind.i64 g.wd, Value.int IntKind.i64 g.id, Value.int IntKind.i64 g.ix, Value.slice bp g.kids.length bc] 28)) 28 [Value.string f.nm, Value.bool true, Value.int .i64 g.k, Value.int .i64 g.wd, Value.int .i64 g.id, Value.int .i64 g.ix, Value.slice bp g.kids.length bc]
          rwa [World.size_alloc] at this
        have hBY : Below W2.heap.size W2 Y := by rw [hY]; exact ((Below.refl _ W2).alloc (Nat.le_refl _) _).alloc (by simp) _
        have hBYw : Below w.heap.size w Y := HB2.out.trans (hBY.mono HB2.out.size)
        rw [← hY]
        clear hY r0 r1 r2 r3 r4 r5 r6 q0 q1 q2 q3 q4 q5 q6 y0 y1 y2 y3 y4 y5 y6
        refine (rright_calls (f := g.named f.nm true) (p := bp) (cap := bc) ((HFD.out.at.below hBY).named hnm true)).mono ?_
        rintro e W3 ⟨rfl, hb3⟩
        have HB3 := Lib.hid (hBYw.trans (hb3.mono hBYw.size))
        have hBW3 : Below W2.heap.size W2 W3 := hBY.trans (hb3.mono hBY.size)
        have D2 := Lib.hid (C2.out.below hBW3 C2.out.lt)
        have OY := Lib.hid (oY.below hb3 oY.lt)
        have HBW3 := Lib.hid hBW3
        clear hBY hBYw hb3 oY hBW3
        have hl3 := D2.out.lt
        have hl4 := OY.out.lt
        have r0 := OY.out.row 0 _ rfl
        have r1 := OY.out.row 1 _ rfl
        have r2 := OY.out.row 2 _ rfl
        have r3 := OY.out.row 3 _ rfl
        have r4 := OY.out.row 4 _ rfl
        have r5 := OY.out.row 5 _ rfl
        have r6 := OY.out.row 6 _ rfl
        have q0 := D2.out.row 0 _ rfl
        have q1 := D2.out.row 1 _ rfl
        have q2 := D2.out.row 2 _ rfl
        have q3 := D2.out.row 3 _ rfl
        have q4 := D2.out.row 4 _ rfl
        have q5 := D2.out.row 5 _ rfl
        have q6 := D2.out.row 6 _ rfl
        have y0 := D2.out.frozen 0
        have y1 := D2.out.frozen 1
        have y2 := D2.out.frozen 2
        have y3 := D2.out.frozen 3
        have y4 := D2.out.frozen 4
        have y5 := D2.out.frozen 5
        have y6 := D2.out.frozen 6
        rw [HM2.out]
        go_wp2_with fail
        rw [HE.out]
        exact type_back2 (fn := Tryz.f12) (g := g.named f.nm true) (rb := w.heap.size + 1) (p := bp) (cap := bc) rfl (put7_box (l := [_, _, _, _, _, _, _]) rfl D2.out _ _ _ _ _ _ _) (put7_below HB3.out (by omega) _ _ _ _ _ _ _) (((((HFD.out.below HBW3.out).named hnm true).put7 (fun b hb => by have hb' : W1.heap.size ≤ b := hb; omega) _ _ _ _ _ _ _)).at) rfl rfl
    | false =>
      have e : res = (noF, 5) := by rw [HR.out, if_neg (by rw [hm2]; decide)]
      have HM2 := Lib.hid hm2
      clear hm2
      rcases hor with rfl | rfl | rfl | rfl
      · have HE := Lib.hid e
        clear e HR
        go_wp2_with fail
        obtain ⟨Y, hY⟩ : ∃ Y, Y = (W2.alloc (.cells #[Value.string g.nm, Value.bool g.nl, Value.int IntKind.i64 g.k, Value.int IntKind.i64 g.wd, Value.int IntKind.i64 g.id, Value.int IntKind.i64 g.ix, Value.slice bp g.kids.length bc] 28)).alloc (.cells #[Value.string f.nm, Value.bool true, Value.int .i64 g.k, Value.int .i64 g.wd, Value.int .i64 g.id, Value.int .i64 g.ix, Value.slice bp g.kids.length bc] 28) := ⟨_, rfl⟩
        have oY : BoxN Y (W2.heap.size + 1) 28 [Value.string f.nm, Value.bool true, Value.int .i64 g.k, Value.int .i64 g.wd, Value.int .i64 g.id, Value.int .i64 g.ix, Value.slice bp g.kids.length bc] := by
          rw [hY]
          have := BoxN.new (W2.alloc (.cells #[Value.string g.nm, Value.bool g.nl, Value.int IntKind.i64 g.k, Value.int IntKind.i64 g.wd, Value.int IntKind.i64 g.id, Value.int IntKind.i64 g.ix, Value.slice bp g.kids.length bc] 28)) 28 [Value.string f.nm, Value.bool true, Value.int .i64 g.k, Value.int .i64 g.wd, Value.int .i64 g.id, Value.int .i64 g.ix, Value.slice bp g.kids.length bc]
          rwa [World.size_alloc] at this
        have hBY : Below W2.heap.size W2 Y := by rw [hY]; exact ((Below.refl _ W2).alloc (Nat.le_refl _) _).alloc (by simp) _
        have hBYw : Below w.heap.size w Y := HB2.out.trans (hBY.mono HB2.out.size)
        rw [← hY]
        clear hY r0 r1 r2 r3 r4 r5 r6 q0 q1 q2 q3 q4 q5 q6 y0 y1 y2 y3 y4 y5 y6
        refine (rright_calls (f := g.named f.nm true) (p := bp) (cap := bc) ((HFD.out.at.below hBY).named hnm true)).mono ?_
        rintro e W3 ⟨rfl, hb3⟩
        have HB3 := Lib.hid (hBYw.trans (hb3.mono hBYw.size))
        have hBW3 : Below W2.heap.size W2 W3 := hBY.trans (hb3.mono hBY.size)
        have D2 := Lib.hid (C2.out.below hBW3 C2.out.lt)
        have OY := Lib.hid (oY.below hb3 oY.lt)
        have HBW3 := Lib.hid hBW3
        clear hBY hBYw hb3 oY hBW3
        have hl3 := D2.out.lt
        have hl4 := OY.out.lt
        have r0 := OY.out.row 0 _ rfl
        have r1 := OY.out.row 1 _ rfl
        have r2 := OY.out.row 2 _ rfl
        have r3 := OY.out.row 3 _ rfl
        have r4 := OY.out.row 4 _ rfl
        have r5 := OY.out.row 5 _ rfl
        have r6 := OY.out.row 6 _ rfl
        have q0 := D2.out.row 0 _ rfl
        have q1 := D2.out.row 1 _ rfl
        have q2 := D2.out.row 2 _ rfl
        have q3 := D2.out.row 3 _ rfl
        have q4 := D2.out.row 4 _ rfl
        have q5 := D2.out.row 5 _ rfl
        have q6 := D2.out.row 6 _ rfl
        have y0 := D2.out.frozen 0
        have y1 := D2.out.frozen 1
        have y2 := D2.out.frozen 2
        have y3 := D2.out.frozen 3
        have y4 := D2.out.frozen 4
        have y5 := D2.out.frozen 5
        have y6 := D2.out.frozen 6
        rw [HM2.out]
        go_wp2_with fail
        rw [HE.out]
        exact type_back2 (fn := Tryz.f12) (g := noF) (rb := w.heap.size + 1) (p := none) (cap := 0) rfl (put7_box (l := [_, _, _, _, _, _, _]) rfl D2.out _ _ _ _ _ _ _) (put7_below HB3.out (by omega) _ _ _ _ _ _ _) ((plainS (S := fun _ => True) (nm := ⟨#[]⟩) (by decide) false (by unfold i64B; omega)).at) rfl rfl
      · have HE := Lib.hid e
        clear e HR
        go_wp2_with fail
        obtain ⟨Y, hY⟩ : ∃ Y, Y = (W2.alloc (.cells #[Value.string g.nm, Value.bool g.nl, Value.int IntKind.i64 g.k, Value.int IntKind.i64 g.wd, Value.int IntKind.i64 g.id, Value.int IntKind.i64 g.ix, Value.slice bp g.kids.length bc] 28)).alloc (.cells #[Value.string f.nm, Value.bool true, Value.int .i64 g.k, Value.int .i64 g.wd, Value.int .i64 g.id, Value.int .i64 g.ix, Value.slice bp g.kids.length bc] 28) := ⟨_, rfl⟩
        have oY : BoxN Y (W2.heap.size + 1) 28 [Value.string f.nm, Value.bool true, Value.int .i64 g.k, Value.int .i64 g.wd, Value.int .i64 g.id, Value.int .i64 g.ix, Value.slice bp g.kids.length bc] := by
          rw [hY]
          have := BoxN.new (W2.alloc (.cells #[Value.string g.nm, Value.bool g.nl, Value.int IntKind.i64 g.k, Value.int IntKind.i64 g.wd, Value.int IntKind.i64 g.id, Value.int IntKind.i64 g.ix, Value.slice bp g.kids.length bc] 28)) 28 [Value.string f.nm, Value.bool true, Value.int .i64 g.k, Value.int .i64 g.wd, Value.int .i64 g.id, Value.int .i64 g.ix, Value.slice bp g.kids.length bc]
          rwa [World.size_alloc] at this
        have hBY : Below W2.heap.size W2 Y := by rw [hY]; exact ((Below.refl _ W2).alloc (Nat.le_refl _) _).alloc (by simp) _
        have hBYw : Below w.heap.size w Y := HB2.out.trans (hBY.mono HB2.out.size)
        rw [← hY]
        clear hY r0 r1 r2 r3 r4 r5 r6 q0 q1 q2 q3 q4 q5 q6 y0 y1 y2 y3 y4 y5 y6
        refine (rright_calls (f := g.named f.nm true) (p := bp) (cap := bc) ((HFD.out.at.below hBY).named hnm true)).mono ?_
        rintro e W3 ⟨rfl, hb3⟩
        have HB3 := Lib.hid (hBYw.trans (hb3.mono hBYw.size))
        have hBW3 : Below W2.heap.size W2 W3 := hBY.trans (hb3.mono hBY.size)
        have D2 := Lib.hid (C2.out.below hBW3 C2.out.lt)
        have OY := Lib.hid (oY.below hb3 oY.lt)
        have HBW3 := Lib.hid hBW3
        clear hBY hBYw hb3 oY hBW3
        have hl3 := D2.out.lt
        have hl4 := OY.out.lt
        have r0 := OY.out.row 0 _ rfl
        have r1 := OY.out.row 1 _ rfl
        have r2 := OY.out.row 2 _ rfl
        have r3 := OY.out.row 3 _ rfl
        have r4 := OY.out.row 4 _ rfl
        have r5 := OY.out.row 5 _ rfl
        have r6 := OY.out.row 6 _ rfl
        have q0 := D2.out.row 0 _ rfl
        have q1 := D2.out.row 1 _ rfl
        have q2 := D2.out.row 2 _ rfl
        have q3 := D2.out.row 3 _ rfl
        have q4 := D2.out.row 4 _ rfl
        have q5 := D2.out.row 5 _ rfl
        have q6 := D2.out.row 6 _ rfl
        have y0 := D2.out.frozen 0
        have y1 := D2.out.frozen 1
        have y2 := D2.out.frozen 2
        have y3 := D2.out.frozen 3
        have y4 := D2.out.frozen 4
        have y5 := D2.out.frozen 5
        have y6 := D2.out.frozen 6
        rw [HM2.out]
        go_wp2_with fail
        rw [HE.out]
        exact type_back2 (fn := Tryz.f12) (g := noF) (rb := w.heap.size + 1) (p := none) (cap := 0) rfl (put7_box (l := [_, _, _, _, _, _, _]) rfl D2.out _ _ _ _ _ _ _) (put7_below HB3.out (by omega) _ _ _ _ _ _ _) ((plainS (S := fun _ => True) (nm := ⟨#[]⟩) (by decide) false (by unfold i64B; omega)).at) rfl rfl
      · have HE := Lib.hid e
        clear e HR
        go_wp2_with fail
        obtain ⟨Y, hY⟩ : ∃ Y, Y = (W2.alloc (.cells #[Value.string g.nm, Value.bool g.nl, Value.int IntKind.i64 g.k, Value.int IntKind.i64 g.wd, Value.int IntKind.i64 g.id, Value.int IntKind.i64 g.ix, Value.slice bp g.kids.length bc] 28)).alloc (.cells #[Value.string f.nm, Value.bool true, Value.int .i64 g.k, Value.int .i64 g.wd, Value.int .i64 g.id, Value.int .i64 g.ix, Value.slice bp g.kids.length bc] 28) := ⟨_, rfl⟩
        have oY : BoxN Y (W2.heap.size + 1) 28 [Value.string f.nm, Value.bool true, Value.int .i64 g.k, Value.int .i64 g.wd, Value.int .i64 g.id, Value.int .i64 g.ix, Value.slice bp g.kids.length bc] := by
          rw [hY]
          have := BoxN.new (W2.alloc (.cells #[Value.string g.nm, Value.bool g.nl, Value.int IntKind.i64 g.k, Value.int IntKind.i64 g.wd, Value.int IntKind.i64 g.id, Value.int IntKind.i64 g.ix, Value.slice bp g.kids.length bc] 28)) 28 [Value.string f.nm, Value.bool true, Value.int .i64 g.k, Value.int .i64 g.wd, Value.int .i64 g.id, Value.int .i64 g.ix, Value.slice bp g.kids.length bc]
          rwa [World.size_alloc] at this
        have hBY : Below W2.heap.size W2 Y := by rw [hY]; exact ((Below.refl _ W2).alloc (Nat.le_refl _) _).alloc (by simp) _
        have hBYw : Below w.heap.size w Y := HB2.out.trans (hBY.mono HB2.out.size)
        rw [← hY]
        clear hY r0 r1 r2 r3 r4 r5 r6 q0 q1 q2 q3 q4 q5 q6 y0 y1 y2 y3 y4 y5 y6
        refine (rright_calls (f := g.named f.nm true) (p := bp) (cap := bc) ((HFD.out.at.below hBY).named hnm true)).mono ?_
        rintro e W3 ⟨rfl, hb3⟩
        have HB3 := Lib.hid (hBYw.trans (hb3.mono hBYw.size))
        have hBW3 : Below W2.heap.size W2 W3 := hBY.trans (hb3.mono hBY.size)
        have D2 := Lib.hid (C2.out.below hBW3 C2.out.lt)
        have OY := Lib.hid (oY.below hb3 oY.lt)
        have HBW3 := Lib.hid hBW3
        clear hBY hBYw hb3 oY hBW3
        have hl3 := D2.out.lt
        have hl4 := OY.out.lt
        have r0 := OY.out.row 0 _ rfl
        have r1 := OY.out.row 1 _ rfl
        have r2 := OY.out.row 2 _ rfl
        have r3 := OY.out.row 3 _ rfl
        have r4 := OY.out.row 4 _ rfl
        have r5 := OY.out.row 5 _ rfl
        have r6 := OY.out.row 6 _ rfl
        have q0 := D2.out.row 0 _ rfl
        have q1 := D2.out.row 1 _ rfl
        have q2 := D2.out.row 2 _ rfl
        have q3 := D2.out.row 3 _ rfl
        have q4 := D2.out.row 4 _ rfl
        have q5 := D2.out.row 5 _ rfl
        have q6 := D2.out.row 6 _ rfl
        have y0 := D2.out.frozen 0
        have y1 := D2.out.frozen 1
        have y2 := D2.out.frozen 2
        have y3 := D2.out.frozen 3
        have y4 := D2.out.frozen 4
        have y5 := D2.out.frozen 5
        have y6 := D2.out.frozen 6
        rw [HM2.out]
        go_wp2_with fail
        rw [HE.out]
        exact type_back2 (fn := Tryz.f12) (g := noF) (rb := w.heap.size + 1) (p := none) (cap := 0) rfl (put7_box (l := [_, _, _, _, _, _, _]) rfl D2.out _ _ _ _ _ _ _) (put7_below HB3.out (by omega) _ _ _ _ _ _ _) ((plainS (S := fun _ => True) (nm := ⟨#[]⟩) (by decide) false (by unfold i64B; omega)).at) rfl rfl
      · have HE := Lib.hid e
        clear e HR
        go_wp2_with fail
        obtain ⟨Y, hY⟩ : ∃ Y, Y = (W2.alloc (.cells #[Value.string g.nm, Value.bool g.nl, Value.int IntKind.i64 g.k, Value.int IntKind.i64 g.wd, Value.int IntKind.i64 g.id, Value.int IntKind.i64 g.ix, Value.slice bp g.kids.length bc] 28)).alloc (.cells #[Value.string f.nm, Value.bool true, Value.int .i64 g.k, Value.int .i64 g.wd, Value.int .i64 g.id, Value.int .i64 g.ix, Value.slice bp g.kids.length bc] 28) := ⟨_, rfl⟩
        have oY : BoxN Y (W2.heap.size + 1) 28 [Value.string f.nm, Value.bool true, Value.int .i64 g.k, Value.int .i64 g.wd, Value.int .i64 g.id, Value.int .i64 g.ix, Value.slice bp g.kids.length bc] := by
          rw [hY]
          have := BoxN.new (W2.alloc (.cells #[Value.string g.nm, Value.bool g.nl, Value.int IntKind.i64 g.k, Value.int IntKind.i64 g.wd, Value.int IntKind.i64 g.id, Value.int IntKind.i64 g.ix, Value.slice bp g.kids.length bc] 28)) 28 [Value.string f.nm, Value.bool true, Value.int .i64 g.k, Value.int .i64 g.wd, Value.int .i64 g.id, Value.int .i64 g.ix, Value.slice bp g.kids.length bc]
          rwa [World.size_alloc] at this
        have hBY : Below W2.heap.size W2 Y := by rw [hY]; exact ((Below.refl _ W2).alloc (Nat.le_refl _) _).alloc (by simp) _
        have hBYw : Below w.heap.size w Y := HB2.out.trans (hBY.mono HB2.out.size)
        rw [← hY]
        clear hY r0 r1 r2 r3 r4 r5 r6 q0 q1 q2 q3 q4 q5 q6 y0 y1 y2 y3 y4 y5 y6
        refine (rright_calls (f := g.named f.nm true) (p := bp) (cap := bc) ((HFD.out.at.below hBY).named hnm true)).mono ?_
        rintro e W3 ⟨rfl, hb3⟩
        have HB3 := Lib.hid (hBYw.trans (hb3.mono hBYw.size))
        have hBW3 : Below W2.heap.size W2 W3 := hBY.trans (hb3.mono hBY.size)
        have D2 := Lib.hid (C2.out.below hBW3 C2.out.lt)
        have OY := Lib.hid (oY.below hb3 oY.lt)
        have HBW3 := Lib.hid hBW3
        clear hBY hBYw hb3 oY hBW3
        have hl3 := D2.out.lt
        have hl4 := OY.out.lt
        have r0 := OY.out.row 0 _ rfl
        have r1 := OY.out.row 1 _ rfl
        have r2 := OY.out.row 2 _ rfl
        have r3 := OY.out.row 3 _ rfl
        have r4 := OY.out.row 4 _ rfl
        have r5 := OY.out.row 5 _ rfl
        have r6 := OY.out.row 6 _ rfl
        have q0 := D2.out.row 0 _ rfl
        have q1 := D2.out.row 1 _ rfl
        have q2 := D2.out.row 2 _ rfl
        have q3 := D2.out.row 3 _ rfl
        have q4 := D2.out.row 4 _ rfl
        have q5 := D2.out.row 5 _ rfl
        have q6 := D2.out.row 6 _ rfl
        have y0 := D2.out.frozen 0
        have y1 := D2.out.frozen 1
        have y2 := D2.out.frozen 2
        have y3 := D2.out.frozen 3
        have y4 := D2.out.frozen 4
        have y5 := D2.out.frozen 5
        have y6 := D2.out.frozen 6
        rw [HM2.out]
        go_wp2_with fail
        rw [HE.out]
        exact type_back2 (fn := Tryz.f12) (g := noF) (rb := w.heap.size + 1) (p := none) (cap := 0) rfl (put7_box (l := [_, _, _, _, _, _, _]) rfl D2.out _ _ _ _ _ _ _) (put7_below HB3.out (by omega) _ _ _ _ _ _ _) ((plainS (S := fun _ => True) (nm := ⟨#[]⟩) (by decide) false (by unfold i64B; omega)).at) rfl rfl
  replace HR := Lib.hid (show _ from by have := HR.out; rw [if_neg o4] at this; exact this)
  have o8 : op = 8 ∨ op = 9 := by omega
  replace HR := Lib.hid (show _ from by have := HR.out; rw [if_pos o8] at this; exact this)
  clear o4 o3 o1 hop hr1 hr2
  by_cases k2 : g.k = 2
  · have e : res = (plainF f.nm true 2, 0) := by rw [HR.out, if_pos k2]
    have k22 : (g.k == 2) = true := by rw [k2]; rfl
    clear k2
    rcases o8 with rfl | rfl
    · have HE := Lib.hid e
      clear e HR
      go_wp2_with fail
      rw [HE.out]
      exact type_back2 (fn := Tryz.f12) (g := plainF f.nm true 2) (rb := w.heap.size + 1) (p := none) (cap := 0) rfl (((put7_box (l := [_, _, _, _, _, _, _]) rfl C2.out _ _ _ _ _ _ _).alloc _).alloc _) (((put7_below HB2.out (by omega) _ _ _ _ _ _ _).alloc (by have := HB2.out.size; simp [put7]; omega) _).alloc (by have := HB2.out.size; simp [put7]; omega) _) (plainS (S := fun _ => True) hnm true (by unfold i64B; omega)).at rfl rfl
    · have HE := Lib.hid e
      clear e HR
      go_wp2_with fail
      rw [HE.out]
      exact type_back2 (fn := Tryz.f12) (g := plainF f.nm true 2) (rb := w.heap.size + 1) (p := none) (cap := 0) rfl (((put7_box (l := [_, _, _, _, _, _, _]) rfl C2.out _ _ _ _ _ _ _).alloc _).alloc _) (((put7_below HB2.out (by omega) _ _ _ _ _ _ _).alloc (by have := HB2.out.size; simp [put7]; omega) _).alloc (by have := HB2.out.size; simp [put7]; omega) _) (plainS (S := fun _ => True) hnm true (by unfold i64B; omega)).at rfl rfl
  · have e : res = (noF, 5) := by rw [HR.out, if_neg k2]
    have k22 : (g.k == 2) = false := by rw [beq_eq_false_iff_ne]; exact k2
    clear k2
    rcases o8 with rfl | rfl
    · have HE := Lib.hid e
      clear e HR
      go_wp2_with fail
      rw [HE.out]
      exact type_back2 (fn := Tryz.f12) (g := noF) (rb := w.heap.size + 1) (p := none) (cap := 0) rfl (((put7_box (l := [_, _, _, _, _, _, _]) rfl C2.out _ _ _ _ _ _ _).alloc _).alloc _) (((put7_below HB2.out (by omega) _ _ _ _ _ _ _).alloc (by have := HB2.out.size; simp [put7]; omega) _).alloc (by have := HB2.out.size; simp [put7]; omega) _) (plainS (S := fun _ => True) (nm := ⟨#[]⟩) (by decide) false (by unfold i64B; omega)).at rfl rfl
    · have HE := Lib.hid e
      clear e HR
      go_wp2_with fail
      rw [HE.out]
      exact type_back2 (fn := Tryz.f12) (g := noF) (rb := w.heap.size + 1) (p := none) (cap := 0) rfl (((put7_box (l := [_, _, _, _, _, _, _]) rfl C2.out _ _ _ _ _ _ _).alloc _).alloc _) (((put7_below HB2.out (by omega) _ _ _ _ _ _ _).alloc (by have := HB2.out.size; simp [put7]; omega) _).alloc (by have := HB2.out.size; simp [put7]; omega) _) (plainS (S := fun _ => True) (nm := ⟨#[]⟩) (by decide) false (by unfold i64B; omega)).at rfl rfl

end Go.Fld
