import Derived.Test.YtkhpgcbjmopkfaaGreatDoorFr
set_option linter.unusedVariables false
set_option maxRecDepth 100000
/-!
  BARE FIELDS: the reference's Bare. No conditions.
-/
namespace Go.Fld
open Go Go.RowKit Go.Proofs Go.ChangeShapes Go.WideShapes Go.ChangeAt Go.Shelf

theorem RowF.empty {W : World} {base b : Nat} (hb : base ≤ b) (hc : BoxN W b 59 []) : RowF W base (.slice (some ⟨b, 0, none⟩) 0 0) [] [] :=
  ⟨⟨rfl, .inr ⟨b, 0, #[], rfl, hb, hc, Nat.le_refl _, by decide, rfl, rfl⟩⟩, rfl, fun j h => absurd h (Nat.not_lt_zero _)⟩

theorem FdAt.named {w : World} {g : Fd} {p : Option Addr} {cap : Nat} (h : FdAt w g [.string g.nm, .bool g.nl, .int .i64 g.k, .int .i64 g.wd, .int .i64 g.id, .int .i64 g.ix, .slice p g.kids.length cap]) {nm : ByteArray} (hn : nm.size ≤ maxLen) (nl : Bool) :
    FdAt w (g.named nm nl) [.string nm, .bool nl, .int .i64 g.k, .int .i64 g.wd, .int .i64 g.id, .int .i64 g.ix, .slice p g.kids.length cap] := by
  cases g with
  | mk nm' nl' fk wd id ix kids =>
    simp only [FdAt] at h
    obtain ⟨_, j1, j2, j3, j4, p9, c9, e9, h9⟩ := h
    simp only [Fd.named, FdAt]
    refine ⟨hn, j1, j2, j3, j4, p9, c9, ?_, h9⟩
    simp only [List.cons.injEq] at e9 ⊢
    exact ⟨trivial, trivial, trivial, trivial, trivial, trivial, e9.2.2.2.2.2.2⟩

set_option maxHeartbeats 1000000 in
theorem rbare_step {w : World} {f : Fd} {p : Option Addr} {cap : Nat} (hf : FdAt w f [.string f.nm, .bool f.nl, .int .i64 f.k, .int .i64 f.wd, .int .i64 f.id, .int .i64 f.ix, .slice p f.kids.length cap])
    (hsm : f.kids.length ≤ 1000000000000) (hne : f.k = 19 ∨ f.k = 20 → f.kids ≠ [])
    (ih : ∀ g ∈ f.kids, ∀ (nm : ByteArray) (nl : Bool) (w : World) (p : Option Addr) (cap : Nat), FdAt w (g.named nm nl) [.string nm, .bool nl, .int .i64 g.k, .int .i64 g.wd, .int .i64 g.id, .int .i64 g.ix, .slice p g.kids.length cap] →
      Calls Tryz.prog 26 #[.agg #[.string nm, .bool nl, .int .i64 g.k, .int .i64 g.wd, .int .i64 g.id, .int .i64 g.ix, .slice p g.kids.length cap]] w (FieldPost w (bareF (g.named nm nl)))) :
    Calls Tryz.prog 26 #[.agg #[.string f.nm, .bool f.nl, .int .i64 f.k, .int .i64 f.wd, .int .i64 f.id, .int .i64 f.ix, .slice p f.kids.length cap]] w (FieldPost w (bareF f)) := by
  obtain ⟨i1, z1, hi1, hz1, hzc1, hsz1, hby1⟩ := info28_parts
  obtain ⟨p', cap', hcs, hk, hnm, ik, iw, ii, ix'⟩ := hf.shape
  cases hcs
  obtain ⟨_, _, e, hl, hm, hC⟩ := hk
  cases e
  unfold maxLen at hm
  have HC := Lib.hid hC
  have HI := Lib.hid ih
  clear hf ih hC
  go_enter Tryz.func26, Tryz.ntmps26
  obtain ⟨W, hW⟩ : ∃ W, W = ((w.alloc (.cells #[Value.string f.nm, Value.bool f.nl, Value.int .i64 f.k, Value.int .i64 f.wd, Value.int .i64 f.id, Value.int .i64 f.ix, Value.slice p f.kids.length cap] 59)).alloc (.cells #[Value.string ⟨#[]⟩, Value.bool false, Value.int .i64 0, Value.int .i64 0, Value.int .i64 0, Value.int .i64 0, Value.slice none 0 0] 59)).alloc (.cells #[Value.int .i64 f.k, Value.int .i64 f.wd, Value.int .i64 f.id, Value.int .i64 f.ix, Value.slice p f.kids.length cap] 57) := ⟨_, rfl⟩
  have a1 : BoxN W w.heap.size 59 [Value.string f.nm, Value.bool f.nl, Value.int .i64 f.k, Value.int .i64 f.wd, Value.int .i64 f.id, Value.int .i64 f.ix, Value.slice p f.kids.length cap] := by
    rw [hW]
    exact ((BoxN.new w 59 [Value.string f.nm, Value.bool f.nl, Value.int .i64 f.k, Value.int .i64 f.wd, Value.int .i64 f.id, Value.int .i64 f.ix, Value.slice p f.kids.length cap]).alloc _).alloc _
  have a2 : BoxN W (w.heap.size + 1) 59 [Value.string ⟨#[]⟩, Value.bool false, Value.int .i64 0, Value.int .i64 0, Value.int .i64 0, Value.int .i64 0, Value.slice none 0 0] := by
    rw [hW]
    have := (BoxN.new (w.alloc (.cells #[Value.string f.nm, Value.bool f.nl, Value.int .i64 f.k, Value.int .i64 f.wd, Value.int .i64 f.id, Value.int .i64 f.ix, Value.slice p f.kids.length cap] 59)) 59 [Value.string ⟨#[]⟩, Value.bool false, Value.int .i64 0, Value.int .i64 0, Value.int .i64 0, Value.int .i64 0, Value.slice none 0 0]).alloc (.cells #[Value.int .i64 f.k, Value.int .i64 f.wd, Value.int .i64 f.id, Value.int .i64 f.ix, Value.slice p f.kids.length cap] 57)
    rwa [World.size_alloc] at this
  have a3 : BoxN W (w.heap.size + 2) 57 [Value.int .i64 f.k, Value.int .i64 f.wd, Value.int .i64 f.id, Value.int .i64 f.ix, Value.slice p f.kids.length cap] := by
    rw [hW]
    have := BoxN.new ((w.alloc (.cells #[Value.string f.nm, Value.bool f.nl, Value.int .i64 f.k, Value.int .i64 f.wd, Value.int .i64 f.id, Value.int .i64 f.ix, Value.slice p f.kids.length cap] 59)).alloc (.cells #[Value.string ⟨#[]⟩, Value.bool false, Value.int .i64 0, Value.int .i64 0, Value.int .i64 0, Value.int .i64 0, Value.slice none 0 0] 59)) 57 [Value.int .i64 f.k, Value.int .i64 f.wd, Value.int .i64 f.id, Value.int .i64 f.ix, Value.slice p f.kids.length cap]
    simpa only [World.size_alloc] using this
  have hBW : Below w.heap.size w W := by rw [hW]; exact (((Below.refl _ w).alloc (Nat.le_refl _) _).alloc (by simp) _).alloc (by simp; omega) _
  have hWs : W.heap.size = w.heap.size + 3 := by rw [hW]; simp
  have A1 := Lib.hid a1
  have A2 := Lib.hid a2
  have A3 := Lib.hid a3
  have HBW := Lib.hid hBW
  have HWS := Lib.hid hWs
  have HW := Lib.hid hW
  clear a1 a2 a3 hBW hWs hW
  by_cases hkd : f.k = 19 ∨ f.k = 20
  · obtain ⟨gk, rest, hks⟩ : ∃ gk rest, f.kids = gk :: rest := by
      cases h : f.kids with
      | nil => exact absurd h (hne hkd)
      | cons gk rest => exact ⟨gk, rest, rfl⟩
    have HKS := Lib.hid hks
    have hpos : 0 < f.kids.length := by rw [hks]; simp
    obtain ⟨b', o', fq, cap', rfl, e3, c0, c1, c2, c3, c4, c5, c6⟩ := HC.out.seven 0 hpos
    have hget : f.kids[0]'hpos = gk := by
      have h1 : f.kids[0]? = some gk := by rw [hks]; rfl
      rw [List.getElem?_eq_getElem hpos] at h1
      exact Option.some.inj h1
    rw [hget] at e3 c0 c1 c2 c3 c4 c5 c6
    have E3 := Lib.hid e3
    have HBARE := Lib.hid (bareF_dict hkd hks)
    have HNM := Lib.hid (bareF_named gk f.nm f.nl)
    simp only [Nat.zero_mul, Nat.add_zero] at c0 c1 c2 c3 c4 c5 c6
    have hIG := HI.out gk (by rw [hks]; simp) f.nm f.nl
    have HIG := Lib.hid hIG
    have hblk := World.block_lt_of_cell? w _ c0
    simp only at hblk
    have hblk1 : b' < w.heap.size + 1 := by omega
    have hblk2 : b' < w.heap.size + 1 + 1 := by omega
    clear hks hget e3 hIG hne
    have HKF : ((f.k == 19) = true) ∨ ((f.k == 19) = false ∧ (f.k == 20) = true) := by
      rcases hkd with hK | hK
      · left; simp [hK]
      · right; simp [hK]
    clear hkd
    rcases HKF with hK | ⟨hK0, hK⟩ <;>
    (go_wp2_with fail
     rw [← HW.out]
     clear HW hblk hblk1 hblk2 c0 c1 c2 c3 c4 c5 c6
     obtain ⟨Y, hY⟩ : ∃ Y, Y = W.alloc (.cells #[Value.string gk.nm, Value.bool gk.nl, Value.int IntKind.i64 gk.k, Value.int IntKind.i64 gk.wd, Value.int IntKind.i64 gk.id, Value.int IntKind.i64 gk.ix, Value.slice fq gk.kids.length cap'] 59) := ⟨_, rfl⟩
     have hBY : Below W.heap.size W Y := by rw [hY]; exact (Below.refl _ W).alloc (Nat.le_refl _) _
     have hBYw : Below w.heap.size w Y := HBW.out.trans (hBY.mono HBW.out.size)
     rw [← hY]
     clear hY
     refine (HIG.out Y fq cap' ((E3.out.below hBYw).named hnm f.nl)).mono ?_
     rintro e W1 ⟨p1, cap1, rfl, hfd, hb1⟩
     have hbare : bareF f = bareF (gk.named f.nm f.nl) := by rw [HBARE.out, HNM.out]
     rw [← hbare] at hfd ⊢
     generalize bareF f = gb at *
     have HB1 := Lib.hid (hBYw.trans (hb1.mono hBYw.size))
     have HFD := Lib.hid (hfd.mono (T := fun b => W.heap.size ≤ b) (fun b hb => by have := hBY.size; omega))
     have D2 := Lib.hid ((A2.out.below hBY A2.out.lt).below hb1 (by have := hBY.size; have := A2.out.lt; omega))
     clear hbare hfd hb1 hBY hBYw
     have q0 := D2.out.row 0 _ rfl
     have q1 := D2.out.row 1 _ rfl
     have q2 := D2.out.row 2 _ rfl
     have q3 := D2.out.row 3 _ rfl
     have q4 := D2.out.row 4 _ rfl
     have q5 := D2.out.row 5 _ rfl
     have q6 := D2.out.row 6 _ rfl
     have y0 := D2.out.frozen 0
     have y1 := D2.out.frozen 1
     have y2 := D2.out.frozen 2
     have y3 := D2.out.frozen 3
     have y4 := D2.out.frozen 4
     have y5 := D2.out.frozen 5
     have y6 := D2.out.frozen 6
     have hl2 := D2.out.lt
     go_wp2_with fail
     exact field_back (fn := Tryz.f26) (g := gb) (p := p1) (cap := cap1) rfl (l := [_, _, _, _, _, _, _]) rfl D2.out (by omega) HB1.out (S := fun b => W.heap.size ≤ b) (fun b hb => by have := HWS.out; omega) HFD.out rfl)
  · have n19 : (f.k == 19) = false := by
      rw [beq_eq_false_iff_ne]
      exact fun e => hkd (.inl e)
    have n20 : (f.k == 20) = false := by
      rw [beq_eq_false_iff_ne]
      exact fun e => hkd (.inr e)
    have HKD := Lib.hid hkd
    clear hkd hne
    go_wp2_with fail
    rw [← HW.out]
    have hV := BoxN.new W 59 []
    obtain ⟨V, hVe⟩ : ∃ V, V = W.alloc (.cells #[] 59) := ⟨_, rfl⟩
    have hV : BoxN V W.heap.size 59 [] := by rw [hVe]; exact hV
    have hBV : Below W.heap.size W V := by rw [hVe]; exact (Below.refl _ W).alloc (Nat.le_refl _) _
    rw [← hVe]
    rw [HWS.out] at hV
    have HV := Lib.hid hV
    have HBV := Lib.hid hBV
    clear hV hVe hBV HW
    go_loopw [5, 6] (fun l i wr => ∃ (k : Nat) (q : Option Addr) (c : Nat) (css : List (List Value)), k ≤ f.kids.length ∧ l = .slice q k c ∧ i = .int .i64 k ∧ Hid (RowF wr W.heap.size (.slice q k c) ((f.kids.take k).map bareF) css) ∧ Hid (Below W.heap.size W wr)) (fun _ i _ => f.kids.length - (intOf i).toNat)
    case atStart => exact ⟨0, some ⟨w.heap.size + 1 + 1 + 1, 0, none⟩, 0, [], by omega, rfl, rfl, Lib.hid (RowF.empty (by rw [HWS.out]; omega) HV.out), HBV⟩
    case round =>
      obtain ⟨k, q, c, css, hk, rfl, rfl, HR, HB⟩ := hrel
      have hbw : Below w.heap.size w wr := HBW.out.trans (HB.out.mono HBW.out.size)
      have HBR := Lib.hid hbw
      have B1 := Lib.hid (A1.out.below HB.out A1.out.lt)
      have B2 := Lib.hid (A2.out.below HB.out A2.out.lt)
      have B3 := Lib.hid (A3.out.below HB.out A3.out.lt)
      have hsz := HB.out.size
      have hlt2 := B2.out.lt
      have t4 := B3.out.row 4 _ rfl
      have hlt3 := B3.out.lt
      by_cases hlt : k < f.kids.length
      · obtain ⟨b', o', fq, cap', rfl, e3, c0, c1, c2, c3, c4, c5, c6⟩ := HC.out.seven k hlt
        have E3 := Lib.hid e3
        replace c0 := cell_below hbw c0
        replace c1 := cell_below hbw c1
        replace c2 := cell_below hbw c2
        replace c3 := cell_below hbw c3
        replace c4 := cell_below hbw c4
        replace c5 := cell_below hbw c5
        replace c6 := cell_below hbw c6
        have HIG := Lib.hid (HI.out f.kids[k] (List.getElem_mem hlt))
        have HTK := Lib.hid (List.take_succ_eq_append_getElem hlt)
        clear e3 hbw
        generalize hg : f.kids[k] = g at *
        have HG := Lib.hid hg
        clear hg
        go_wp2_with fail
        have hns : g.named g.nm g.nl = g := by cases g; rfl
        have hcall := HIG.out g.nm g.nl wr fq cap' (by rw [hns]; exact E3.out.below HBR.out)
        rw [hns] at hcall
        refine hcall.mono ?_
        clear hcall hns
        rintro e W1 ⟨p1, cap1, rfl, hfd, hb2⟩
        obtain ⟨gb, hgb⟩ : ∃ gb, gb = bareF g := ⟨_, rfl⟩
        rw [← hgb] at hfd ⊢
        have HGB := Lib.hid hgb
        clear hgb
        have hR1 := HR.out.below hb2
        have htk : ((f.kids.take k).map bareF).length = k := by rw [List.length_map, List.length_take]; omega
        have hown1 : W1.ownsRow W.heap.size 59 7 (.slice q k c) k (css.flatMap id) := by have := hR1.own; rwa [htk] at this
        have hoff : ∀ j, (Value.slice q k c).ownBlock = some j → j < wr.heap.size := fun j e => (HR.out.own.lt j e).2
        have hfd1 : FdS (fun b => W.heap.size ≤ b ∧ (Value.slice q k c).ownBlock ≠ some b) W1 gb _ := hfd.mono (fun b hb => ⟨by omega, fun e => by have := hoff b e; omega⟩)
        have hs1 := hb2.size
        have HR1 := Lib.hid hR1
        have HO1 := Lib.hid hown1
        have HF1 := Lib.hid hfd1
        have HB2 := Lib.hid (HB.out.trans (hb2.mono hsz))
        have HTL := Lib.hid htk
        have hZ := BoxN.new W1 59 [Value.string gb.nm, Value.bool gb.nl, Value.int IntKind.i64 gb.k, Value.int IntKind.i64 gb.wd, Value.int IntKind.i64 gb.id, Value.int IntKind.i64 gb.ix, Value.slice p1 gb.kids.length cap1]
        have HZ := Lib.hid hZ
        clear hfd hb2 hR1 hown1 hfd1 hoff hZ htk c0 c1 c2 c3 c4 c5 c6
        go_wp2_with (at_builtin; refine wpList_append_lies _ rfl _ _ 23 rfl W.heap.size 59 i1 z1 7 80 und23 hi1 hz1 hsz1 hby1 hzc1 (by decide) (.slice q k c) k (css.flatMap id) rfl (HO1.out.alloc _) ⟨W1.heap.size, 0, none⟩ 1 1 [Value.string gb.nm, Value.bool gb.nl, Value.int IntKind.i64 gb.k, Value.int IntKind.i64 gb.wd, Value.int IntKind.i64 gb.id, Value.int IntKind.i64 gb.ix, Value.slice p1 gb.kids.length cap1] rfl rfl (World.news_of_block HZ.out) (by simp [Value.oneCell']) (by decide) (by unfold maxLen; omega) (by omega) (by simp; omega) (W1.heap.size + 1) (by simp) ?_; intro gg cc w2 hown2 hgrow2 hat2 hlt2)
        refine ⟨⟨k + 1, some ⟨gg, 0, none⟩, cc, css ++ [[Value.string gb.nm, Value.bool gb.nl, Value.int IntKind.i64 gb.k, Value.int IntKind.i64 gb.wd, Value.int IntKind.i64 gb.id, Value.int IntKind.i64 gb.ix, Value.slice p1 gb.kids.length cap1]], by omega, rfl, by go_num, Lib.hid ?_, Lib.hid ((HB2.out.alloc HB2.out.size _).grown hgrow2 (by have := HB2.out.size; simp; omega) (fun j e => (HO1.out.lt j e).1))⟩, by simp [intOf]; omega⟩
        rw [HTK.out, List.map_append, List.map_cons, List.map_nil, ← HGB.out]
        exact (HR1.out.below ((Below.refl _ W1).alloc (Nat.le_refl _) _)).push (HF1.out.below ((Below.refl _ W1).alloc (Nat.le_refl _) _)) HTL.out hown2 hgrow2 (by rw [World.size_alloc]; exact hat2)
      · have hkl : k = f.kids.length := by omega
        have HKL := Lib.hid hkl
        have hR := HR.out
        rw [hkl, List.take_length] at hR
        have HRL := Lib.hid hR
        have HROOM := Lib.hid hR.room
        clear hkl hbw hR
        have r0 := B1.out.row 0 _ rfl
        have r1 := B1.out.row 1 _ rfl
        have r2 := B1.out.row 2 _ rfl
        have r3 := B1.out.row 3 _ rfl
        have r4 := B1.out.row 4 _ rfl
        have r5 := B1.out.row 5 _ rfl
        have r6 := B1.out.row 6 _ rfl
        have x6 := B1.out.frozen 6
        have q0 := B2.out.row 0 _ rfl
        have q1 := B2.out.row 1 _ rfl
        have q2 := B2.out.row 2 _ rfl
        have q3 := B2.out.row 3 _ rfl
        have q4 := B2.out.row 4 _ rfl
        have q5 := B2.out.row 5 _ rfl
        have q6 := B2.out.row 6 _ rfl
        have y0 := B2.out.frozen 0
        have y1 := B2.out.frozen 1
        have y2 := B2.out.frozen 2
        have y3 := B2.out.frozen 3
        have y4 := B2.out.frozen 4
        have y5 := B2.out.frozen 5
        have y6 := B2.out.frozen 6
        go_wp2_with fail
        have hlist := HRL.out.list
        obtain ⟨hkc, hcm⟩ := HROOM.out
        rw [HKL.out, bareF_plain HKD.out]
        have hbl : (f.kids.map bareF).length = f.kids.length := List.length_map ..
        generalize f.kids.map bareF = bs at *
        rw [← hbl]
        have h1 := FdS.mk' (nl := f.nl) hnm ik iw ii ix' (kids := bs) (p := q) (cap := c) hkc hcm hlist
        have hF : FdS (fun b => W.heap.size ≤ b) (wr.setCell ⟨w.heap.size, 6, none⟩ (.slice q bs.length c)) (.mk f.nm f.nl f.k f.wd f.id f.ix bs) [.string f.nm, .bool f.nl, .int .i64 f.k, .int .i64 f.wd, .int .i64 f.id, .int .i64 f.ix, .slice q bs.length c] :=
          h1.keep (fun b hs hlt => ⟨Below.heap_setCell _ _ _ b (by have := HWS.out; show b ≠ w.heap.size; omega), hs⟩)
        exact field_back (fn := Tryz.f26) (g := .mk f.nm f.nl f.k f.wd f.id f.ix bs) (p := q) (cap := c) rfl (l := [_, _, _, _, _, _, _]) rfl (B2.out.other (a := ⟨w.heap.size, 6, none⟩) (by simp) (.slice q bs.length c)) (by omega) (HBR.out.setCell (p := ⟨w.heap.size, 6, none⟩) (Nat.le_refl _) _) (S := fun b => W.heap.size ≤ b) (fun b hb => by have := HWS.out; omega) hF rfl

theorem rbare_calls (f : Fd) (ho : okF f) (nm : ByteArray) (nl : Bool) : ∀ (w : World) (p : Option Addr) (cap : Nat), FdAt w (f.named nm nl) [.string nm, .bool nl, .int .i64 f.k, .int .i64 f.wd, .int .i64 f.id, .int .i64 f.ix, .slice p f.kids.length cap] →
    Calls Tryz.prog 26 #[.agg #[.string nm, .bool nl, .int .i64 f.k, .int .i64 f.wd, .int .i64 f.id, .int .i64 f.ix, .slice p f.kids.length cap]] w (FieldPost w (bareF (f.named nm nl))) := by
  revert ho nm nl
  refine fd_ind (P := fun f => okF f → ∀ (nm : ByteArray) (nl : Bool) (w : World) (p : Option Addr) (cap : Nat), FdAt w (f.named nm nl) [.string nm, .bool nl, .int .i64 f.k, .int .i64 f.wd, .int .i64 f.id, .int .i64 f.ix, .slice p f.kids.length cap] →
    Calls Tryz.prog 26 #[.agg #[.string nm, .bool nl, .int .i64 f.k, .int .i64 f.wd, .int .i64 f.id, .int .i64 f.ix, .slice p f.kids.length cap]] w (FieldPost w (bareF (f.named nm nl)))) (fun f ih ho nm nl w p cap hf => ?_) f
  obtain ⟨hne, hk, hl⟩ := okF_kids ho
  exact rbare_step (f := f.named nm nl) hf (by show f.kids.length ≤ _; omega) hne (fun g hg nm nl w p cap => ih g hg (okL_mem hl g hg) nm nl w p cap)

end Go.Fld
