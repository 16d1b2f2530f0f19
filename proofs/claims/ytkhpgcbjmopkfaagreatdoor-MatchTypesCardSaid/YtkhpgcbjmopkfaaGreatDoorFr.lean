import Derived.Test.YtkhpgcbjmopkfaaGreatDoorFq
set_option linter.unusedVariables false
set_option maxRecDepth 100000
/-!
  BARE FIELDS: the program's bare. No conditions.
-/
namespace Go.Fld
open Go Go.RowKit Go.Proofs Go.ChangeShapes Go.WideShapes Go.ChangeAt Go.Shelf

set_option maxHeartbeats 1000000 in
theorem bare_step {w : World} {f : Fd} {p : Option Addr} {cap : Nat} (hf : FdAt w f [.string f.nm, .bool f.nl, .int .i64 f.k, .int .i64 f.wd, .int .i64 f.id, .int .i64 f.ix, .slice p f.kids.length cap])
    (hsm : f.kids.length ≤ 1000000000000) (hne : f.k = 19 ∨ f.k = 20 → f.kids ≠ [])
    (ih : ∀ g ∈ f.kids, ∀ (w : World) (p : Option Addr) (cap : Nat), FdAt w g [.string g.nm, .bool g.nl, .int .i64 g.k, .int .i64 g.wd, .int .i64 g.id, .int .i64 g.ix, .slice p g.kids.length cap] →
      Calls Tryz.prog 20 #[.agg #[.string g.nm, .bool g.nl, .int .i64 g.k, .int .i64 g.wd, .int .i64 g.id, .int .i64 g.ix, .slice p g.kids.length cap]] w (FieldPost w (bareF g))) :
    Calls Tryz.prog 20 #[.agg #[.string f.nm, .bool f.nl, .int .i64 f.k, .int .i64 f.wd, .int .i64 f.id, .int .i64 f.ix, .slice p f.kids.length cap]] w (FieldPost w (bareF f)) := by
  obtain ⟨i1, z1, hi1, hz1, hzc1, hsz1, hby1⟩ := info28_parts
  obtain ⟨p', cap', hcs, hk, hnm, ik, iw, ii, ix'⟩ := hf.shape
  cases hcs
  obtain ⟨_, _, e, hl, hm, hC⟩ := hk
  cases e
  unfold maxLen at hm
  have HC := Lib.hid hC
  have HI := Lib.hid ih
  clear hf ih hC
  go_enter Tryz.func20, Tryz.ntmps20
  obtain ⟨W, hW⟩ : ∃ W, W = ((w.alloc (.cells #[Value.string f.nm, Value.bool f.nl, Value.int .i64 f.k, Value.int .i64 f.wd, Value.int .i64 f.id, Value.int .i64 f.ix, Value.slice p f.kids.length cap] 59)).alloc (.cells #[Value.string ⟨#[]⟩, Value.bool false, Value.int .i64 0, Value.int .i64 0, Value.int .i64 0, Value.int .i64 0, Value.slice none 0 0] 59)) := ⟨_, rfl⟩
  have a1 : BoxN W w.heap.size 59 [Value.string f.nm, Value.bool f.nl, Value.int .i64 f.k, Value.int .i64 f.wd, Value.int .i64 f.id, Value.int .i64 f.ix, Value.slice p f.kids.length cap] := by
    rw [hW]
    exact (BoxN.new w 59 [Value.string f.nm, Value.bool f.nl, Value.int .i64 f.k, Value.int .i64 f.wd, Value.int .i64 f.id, Value.int .i64 f.ix, Value.slice p f.kids.length cap]).alloc _
  have a2 : BoxN W (w.heap.size + 1) 59 [Value.string ⟨#[]⟩, Value.bool false, Value.int .i64 0, Value.int .i64 0, Value.int .i64 0, Value.int .i64 0, Value.slice none 0 0] := by
    rw [hW]
    have := BoxN.new (w.alloc (.cells #[Value.string f.nm, Value.bool f.nl, Value.int .i64 f.k, Value.int .i64 f.wd, Value.int .i64 f.id, Value.int .i64 f.ix, Value.slice p f.kids.length cap] 59)) 59 [Value.string ⟨#[]⟩, Value.bool false, Value.int .i64 0, Value.int .i64 0, Value.int .i64 0, Value.int .i64 0, Value.slice none 0 0]
    rwa [World.size_alloc] at this
  have hBW : Below w.heap.size w W := by rw [hW]; exact ((Below.refl _ w).alloc (Nat.le_refl _) _).alloc (by simp) _
  have hWs : W.heap.size = w.heap.size + 2 := by rw [hW]; simp
  have A1 := Lib.hid a1
  have A2 := Lib.hid a2
  have HBW := Lib.hid hBW
  have HWS := Lib.hid hWs
  have HW := Lib.hid hW
  clear a1 a2 hBW hWs hW
  go_wp2_with fail
  rw [← HW.out]
  clear HW
  go_loopw [3, 11] (fun l i wr => ∃ (k : Nat) (q : Option Addr) (c : Nat) (css : List (List Value)), k ≤ f.kids.length ∧ l = .slice q k c ∧ i = .int .i64 k ∧ Hid (RowF wr W.heap.size (.slice q k c) ((f.kids.take k).map bareF) css) ∧ Hid (Below W.heap.size W wr)) (fun _ i _ => f.kids.length - (intOf i).toNat)
  case atStart => exact ⟨0, none, 0, [], by omega, rfl, rfl, Lib.hid (RowF.nil _ _), Lib.hid (Below.refl _ _)⟩
  case round =>
    obtain ⟨k, q, c, css, hk, rfl, rfl, HR, HB⟩ := hrel
    have hbw : Below w.heap.size w wr := HBW.out.trans (HB.out.mono HBW.out.size)
    have HBR := Lib.hid hbw
    have B1 := Lib.hid (A1.out.below HB.out A1.out.lt)
    have B2 := Lib.hid (A2.out.below HB.out A2.out.lt)
    have hsz := HB.out.size
    have hlt2 := B2.out.lt
    by_cases hlt : k < f.kids.length
    · obtain ⟨b', o', fq, cap', rfl, e3, c0, c1, c2, c3, c4, c5, c6⟩ := HC.out.seven k hlt
      have E3 := Lib.hid e3
      replace c0 := cell_below hbw c0
      replace c1 := cell_below hbw c1
      replace c2 := cell_below hbw c2
      replace c3 := cell_below hbw c3
      replace c4 := cell_below hbw c4
      replace c5 := cell_below hbw c5
      replace c6 := cell_below hbw c6
      have HIG := Lib.hid (HI.out f.kids[k] (List.getElem_mem hlt))
      have HTK := Lib.hid (List.take_succ_eq_append_getElem hlt)
      clear e3 hbw
      generalize hg : f.kids[k] = g at *
      have HG := Lib.hid hg
      clear hg
      go_wp2_with fail
      obtain ⟨A, hA⟩ : ∃ A, A = wr.alloc (.cells #[Value.string g.nm, Value.bool g.nl, Value.int IntKind.i64 g.k, Value.int IntKind.i64 g.wd, Value.int IntKind.i64 g.id, Value.int IntKind.i64 g.ix, Value.slice fq g.kids.length cap'] 59) := ⟨_, rfl⟩
      have BA : Below wr.heap.size wr A := by rw [hA]; exact (Below.refl _ wr).alloc (Nat.le_refl _) _
      rw [← hA]
      clear hA
      have BAw := HBR.out.trans (BA.mono HBR.out.size)
      refine (HIG.out A fq cap' (E3.out.below BAw)).mono ?_
      rintro e W1 ⟨p1, cap1, rfl, hfd, hb1⟩
      obtain ⟨gb, hgb⟩ : ∃ gb, gb = bareF g := ⟨_, rfl⟩
      rw [← hgb] at hfd ⊢
      have HGB := Lib.hid hgb
      clear hgb
      have hb2 : Below wr.heap.size wr W1 := BA.trans (hb1.mono BA.size)
      have hR1 := HR.out.below hb2
      have htk : ((f.kids.take k).map bareF).length = k := by rw [List.length_map, List.length_take]; omega
      have hown1 : W1.ownsRow W.heap.size 59 7 (.slice q k c) k (css.flatMap id) := by have := hR1.own; rwa [htk] at this
      have hasz : wr.heap.size ≤ A.heap.size := BA.size
      have hoff : ∀ j, (Value.slice q k c).ownBlock = some j → j < wr.heap.size := fun j e => (HR.out.own.lt j e).2
      have hfd1 : FdS (fun b => W.heap.size ≤ b ∧ (Value.slice q k c).ownBlock ≠ some b) W1 gb _ := hfd.mono (fun b hb => ⟨by omega, fun e => by have := hoff b e; omega⟩)
      have hs1 := hb2.size
      have HR1 := Lib.hid hR1
      have HO1 := Lib.hid hown1
      have HF1 := Lib.hid hfd1
      have HB2 := Lib.hid (HB.out.trans (hb2.mono hsz))
      have HTL := Lib.hid htk
      have hZ := BoxN.new W1 59 [Value.string gb.nm, Value.bool gb.nl, Value.int IntKind.i64 gb.k, Value.int IntKind.i64 gb.wd, Value.int IntKind.i64 gb.id, Value.int IntKind.i64 gb.ix, Value.slice p1 gb.kids.length cap1]
      have HZ := Lib.hid hZ
      clear hfd hb1 hb2 hR1 hown1 hfd1 hoff hZ BA BAw htk c0 c1 c2 c3 c4 c5 c6
      go_wp2_with (at_builtin; refine wpList_append_lies _ rfl _ _ 23 rfl W.heap.size 59 i1 z1 7 80 und23 hi1 hz1 hsz1 hby1 hzc1 (by decide) (.slice q k c) k (css.flatMap id) rfl (HO1.out.alloc _) ⟨W1.heap.size, 0, none⟩ 1 1 [Value.string gb.nm, Value.bool gb.nl, Value.int IntKind.i64 gb.k, Value.int IntKind.i64 gb.wd, Value.int IntKind.i64 gb.id, Value.int IntKind.i64 gb.ix, Value.slice p1 gb.kids.length cap1] rfl rfl (World.news_of_block HZ.out) (by simp [Value.oneCell']) (by decide) (by unfold maxLen; omega) (by omega) (by simp; omega) (W1.heap.size + 1) (by simp) ?_; intro gg cc w2 hown2 hgrow2 hat2 hlt2)
      refine ⟨⟨k + 1, some ⟨gg, 0, none⟩, cc, css ++ [[Value.string gb.nm, Value.bool gb.nl, Value.int IntKind.i64 gb.k, Value.int IntKind.i64 gb.wd, Value.int IntKind.i64 gb.id, Value.int IntKind.i64 gb.ix, Value.slice p1 gb.kids.length cap1]], by omega, rfl, by go_num, Lib.hid ?_, Lib.hid ((HB2.out.alloc HB2.out.size _).grown hgrow2 (by have := HB2.out.size; simp; omega) (fun j e => (HO1.out.lt j e).1))⟩, by simp [intOf]; omega⟩
      rw [HTK.out, List.map_append, List.map_cons, List.map_nil, ← HGB.out]
      exact (HR1.out.below ((Below.refl _ W1).alloc (Nat.le_refl _) _)).push (HF1.out.below ((Below.refl _ W1).alloc (Nat.le_refl _) _)) HTL.out hown2 hgrow2 (by rw [World.size_alloc]; exact hat2)
    · have hkl : k = f.kids.length := by omega
      have HKL := Lib.hid hkl
      have hR := HR.out
      rw [hkl, List.take_length] at hR
      have HRL := Lib.hid hR
      have HROOM := Lib.hid hR.room
      clear hkl hbw hR
      have r0 := B1.out.row 0 _ rfl
      have r1 := B1.out.row 1 _ rfl
      have r2 := B1.out.row 2 _ rfl
      have r3 := B1.out.row 3 _ rfl
      have r4 := B1.out.row 4 _ rfl
      have r5 := B1.out.row 5 _ rfl
      have r6 := B1.out.row 6 _ rfl
      have x6 := B1.out.frozen 6
      have q0 := B2.out.row 0 _ rfl
      have q1 := B2.out.row 1 _ rfl
      have q2 := B2.out.row 2 _ rfl
      have q3 := B2.out.row 3 _ rfl
      have q4 := B2.out.row 4 _ rfl
      have q5 := B2.out.row 5 _ rfl
      have q6 := B2.out.row 6 _ rfl
      have y0 := B2.out.frozen 0
      have y1 := B2.out.frozen 1
      have y2 := B2.out.frozen 2
      have y3 := B2.out.frozen 3
      have y4 := B2.out.frozen 4
      have y5 := B2.out.frozen 5
      have y6 := B2.out.frozen 6
      by_cases hkd : f.k = 19 ∨ f.k = 20
      · have HKD := Lib.hid hkd
        obtain ⟨gk, rest, hks⟩ : ∃ gk rest, f.kids = gk :: rest := by
          cases h : f.kids with
          | nil => exact absurd h (hne hkd)
          | cons gk rest => exact ⟨gk, rest, rfl⟩
        have HKS := Lib.hid hks
        have hb0 : (f.kids.map bareF)[0]? = some (bareF gk) := by rw [hks]; rfl
        have hpos : 0 < (f.kids.map bareF).length := by rw [hks]; simp
        have hget : (f.kids.map bareF)[0]'hpos = bareF gk := by
          have := List.getElem?_eq_getElem hpos
          rw [this] at hb0
          exact Option.some.inj hb0
        have hl0 : 0 < css.length := by rw [HRL.out.len]; exact hpos
        have hfd := HRL.out.fld 0 hpos hl0
        rw [hget] at hfd
        obtain ⟨bp, bc, hbcs, hbl, hbc, hbm⟩ := hfd.shape
        obtain ⟨g, rfl⟩ : ∃ g, q = some ⟨g, 0, none⟩ := by
          rcases HRL.out.own.2 with ⟨e, hn⟩ | ⟨g, c', cur, e, _⟩
          · omega
          · simp only [Value.slice.injEq] at e
            exact ⟨g, e.1⟩
        have hgl := HRL.out.own.lt g rfl
        have hcells : ∀ (i : Nat) (u : Value), (css[0])[i]? = some u → wr.cell? ⟨g, i, none⟩ = some u := fun i u hu => by
          have hi : i < 7 := by
            have := (List.getElem?_eq_some_iff.1 hu).1
            rwa [HRL.out.seven _ (List.getElem_mem hl0)] at this
          have h1 := HRL.out.own.cells (g := g) rfl (0 * 7 + i) u (by rw [flat_get' 7 css HRL.out.seven 0 hl0 i hi]; exact hu)
          rw [Addr.add_lit] at h1
          simpa using h1
        rw [hbcs] at hcells hfd
        have l0 := hcells 0 _ rfl
        have l1 := hcells 1 _ rfl
        have l2 := hcells 2 _ rfl
        have l3 := hcells 3 _ rfl
        have l4 := hcells 4 _ rfl
        have l5 := hcells 5 _ rfl
        have l6 := hcells 6 _ rfl
        have HFD := Lib.hid hfd
        have hbare := bareF_dict hkd hks
        obtain ⟨gb, hgb⟩ : ∃ gb, gb = bareF gk := ⟨_, rfl⟩
        rw [← hgb] at HFD hbare l0 l1 l2 l3 l4 l5 l6 hbl hbc
        have HBARE := Lib.hid hbare
        have hkp : 0 < k := by rw [HKL.out, hks]; simp
        have hkc : k ≤ c := by have := HROOM.out.1; rw [List.length_map] at this; rw [HKL.out]; exact this
        have hcm2 : c ≤ 9223372036854775807 := HROOM.out.2
        obtain ⟨hgl1, hgl2⟩ := hgl
        clear hb0 hpos hget hfd hbcs hcells hbare hgb hks hne hl0
        rcases hkd with hK | hK <;>
        (rw [hK] at r2
         clear hK
         go_wp2_with fail
         have hC := BoxN.new wr 59 [Value.string gb.nm, Value.bool gb.nl, Value.int IntKind.i64 gb.k, Value.int IntKind.i64 gb.wd, Value.int IntKind.i64 gb.id, Value.int IntKind.i64 gb.ix, Value.slice bp gb.kids.length bc]
         obtain ⟨A, hA⟩ : ∃ A, A = wr.alloc (.cells #[Value.string gb.nm, Value.bool gb.nl, Value.int IntKind.i64 gb.k, Value.int IntKind.i64 gb.wd, Value.int IntKind.i64 gb.id, Value.int IntKind.i64 gb.ix, Value.slice bp gb.kids.length bc] 59) := ⟨_, rfl⟩
         have hC : BoxN A wr.heap.size 59 [Value.string gb.nm, Value.bool gb.nl, Value.int IntKind.i64 gb.k, Value.int IntKind.i64 gb.wd, Value.int IntKind.i64 gb.id, Value.int IntKind.i64 gb.ix, Value.slice bp gb.kids.length bc] := by rw [hA]; exact hC
         have hBA : Below wr.heap.size wr A := by rw [hA]; exact (Below.refl _ wr).alloc (Nat.le_refl _) _
         rw [← hA]
         clear hA
         have CB := Lib.hid hC
         have D1 := Lib.hid (B1.out.below hBA B1.out.lt)
         have D2 := Lib.hid (B2.out.below hBA B2.out.lt)
         have HBA := Lib.hid hBA
         have HFA := Lib.hid (HFD.out.below hBA)
         have s0 : (A.drew.cell? ⟨w.heap.size, 0, none⟩ = some (.string f.nm)) ∧ (A.drew.cell? ⟨w.heap.size, 1, none⟩ = some (.bool f.nl)) := ⟨D1.out.row 0 _ rfl, D1.out.row 1 _ rfl⟩
         have HS0 := Lib.hid s0
         have k0 : A.drew.cell? ⟨wr.heap.size, 0, none⟩ = some (.string gb.nm) := CB.out.row 0 _ rfl
         have k1 : A.drew.cell? ⟨wr.heap.size, 1, none⟩ = some (.bool gb.nl) := CB.out.row 1 _ rfl
         have z0 : A.drew.frozen? ⟨wr.heap.size, 0, none⟩ = false := CB.out.frozen 0
         have zz1 : A.frozen? ⟨wr.heap.size, 1, none⟩ = false := CB.out.frozen 1
         clear s0 hC hBA l0 l1 l2 l3 l4 l5 l6 r0 r1 r2 r3 r4 r5 r6 x6 q0 q1 q2 q3 q4 q5 q6 y0 y1 y2 y3 y4 y5 y6
         refine Late.region (fun w' => (w'.cell? ⟨w.heap.size, 0, none⟩ = some (.string f.nm)) ∧ (w'.cell? ⟨w.heap.size, 1, none⟩ = some (.bool f.nl))) (fun _ => false) (by kernel_rfl) ?_
         refine Late.take (i := 0) (v := ?_) rfl (by kernel_rfl) (by kernel_rfl) (by kernel_rfl) (by kernel_rfl) (fun _ _ _ h => h) (Or.inl ⟨by rfl, ?_⟩) HS0.out ?_
         rotate_left
         · intro w' hS
           obtain ⟨s1, s2⟩ := hS
           go_simp
           rfl
         refine Late.take (i := 1) (v := ?_) rfl (by kernel_rfl) (by kernel_rfl) (by kernel_rfl) (by kernel_rfl) (fun _ _ _ h => h) (Or.inl ⟨by rfl, ?_⟩) HS0.out ?_
         rotate_left
         · intro w' hS
           obtain ⟨s1, s2⟩ := hS
           go_simp
           rfl
         refine Late.take (i := 2) (v := ?_) rfl (by kernel_rfl) (by kernel_rfl) (by kernel_rfl) (by kernel_rfl) (fun _ _ _ h => h) (Or.inl ⟨by rfl, ?_⟩) HS0.out ?_
         rotate_left
         · intro w' hS
           obtain ⟨s1, s2⟩ := hS
           go_simp
           rfl
         refine Late.take (i := 3) (v := ?_) rfl (by kernel_rfl) (by kernel_rfl) (by kernel_rfl) (by kernel_rfl) (fun _ _ _ h => h) (Or.inl ⟨by rfl, ?_⟩) HS0.out ?_
         rotate_left
         · intro w' hS
           obtain ⟨s1, s2⟩ := hS
           go_simp
           rfl
         refine Late.take (i := 4) (v := ?_) rfl (by kernel_rfl) (by kernel_rfl) (by kernel_rfl) (by kernel_rfl) (fun _ _ _ h => h) (Or.inl ⟨by rfl, ?_⟩) HS0.out ?_
         rotate_left
         · intro w' hS
           obtain ⟨s1, s2⟩ := hS
           go_simp
           rfl
         refine Late.one (i := 5) (by kernel_rfl) rfl (fun K hK => ?_)
         go_simp
         have hE1 : (A.setCell ⟨wr.heap.size, 0, none⟩ (.string f.nm)).drew.cell? ⟨w.heap.size, 0, none⟩ = some (.string f.nm) ∧ (A.setCell ⟨wr.heap.size, 0, none⟩ (.string f.nm)).drew.cell? ⟨w.heap.size, 1, none⟩ = some (.bool f.nl) := by
           have hd := D1.out.other (a := ⟨wr.heap.size, 0, none⟩) (by simp; omega) (.string f.nm)
           exact ⟨hd.row 0 _ rfl, hd.row 1 _ rfl⟩
         refine hK _ _ (fun _ => hE1) ?_
         clear hK K
         refine Late.one (i := 6) (by kernel_rfl) rfl (fun K hK => ?_)
         go_simp
         refine hK _ _ (fun _ => hE1) ?_
         clear hK K
         have k1' : (A.setCell ⟨wr.heap.size, 0, none⟩ (.string f.nm)).drew.cell? ⟨wr.heap.size, 1, none⟩ = some (.bool gb.nl) := (CB.out.set 0 (.string f.nm)).row 1 _ rfl
         refine Late.one (i := 7) (by kernel_rfl) rfl (fun K hK => ?_)
         go_simp
         have hE2 : ((A.setCell ⟨wr.heap.size, 0, none⟩ (.string f.nm)).setCell ⟨wr.heap.size, 1, none⟩ (.bool f.nl)).drew.cell? ⟨w.heap.size, 0, none⟩ = some (.string f.nm) ∧ ((A.setCell ⟨wr.heap.size, 0, none⟩ (.string f.nm)).setCell ⟨wr.heap.size, 1, none⟩ (.bool f.nl)).drew.cell? ⟨w.heap.size, 1, none⟩ = some (.bool f.nl) := by
           have hd := (D1.out.other (a := ⟨wr.heap.size, 0, none⟩) (by simp; omega) (.string f.nm)).other (a := ⟨wr.heap.size, 1, none⟩) (by simp; omega) (.bool f.nl)
           exact ⟨hd.row 0 _ rfl, hd.row 1 _ rfl⟩
         refine hK _ _ (fun _ => hE2) ?_
         clear hK K
         refine Late.done (by kernel_rfl) ?_ _
         clear hE1 hE2 k0 k1 k1' z0 zz1
         have HCE := Lib.hid ((CB.out.set 0 (.string f.nm)).set 1 (.bool f.nl))
         have HDE := Lib.hid ((D2.out.other (a := ⟨wr.heap.size, 0, none⟩) (by simp; omega) (.string f.nm)).other (a := ⟨wr.heap.size, 1, none⟩) (by simp; omega) (.bool f.nl))
         obtain ⟨E2, hE2⟩ : ∃ E2, E2 = ((A.setCell ⟨wr.heap.size, 0, none⟩ (.string f.nm)).setCell ⟨wr.heap.size, 1, none⟩ (.bool f.nl)).drew := ⟨_, rfl⟩
         have hC2 : BoxN E2 wr.heap.size 59 [Value.string f.nm, Value.bool f.nl, Value.int IntKind.i64 gb.k, Value.int IntKind.i64 gb.wd, Value.int IntKind.i64 gb.id, Value.int IntKind.i64 gb.ix, Value.slice bp gb.kids.length bc] := by rw [hE2]; exact HCE.out
         have hD2 : BoxN E2 (w.heap.size + 1) 59 [Value.string ⟨#[]⟩, Value.bool false, Value.int .i64 0, Value.int .i64 0, Value.int .i64 0, Value.int .i64 0, Value.slice none 0 0] := by rw [hE2]; exact HDE.out
         have hB2 : Below w.heap.size w E2 := by
           rw [hE2]
           exact below_drew (((HBR.out.trans (HBA.out.mono HBR.out.size)).setCell (p := ⟨wr.heap.size, 0, none⟩) (by have := HBR.out.size; show w.heap.size ≤ wr.heap.size; omega) _).setCell (p := ⟨wr.heap.size, 1, none⟩) (by have := HBR.out.size; show w.heap.size ≤ wr.heap.size; omega) _)
         have hF2 : FdS (fun b => W.heap.size ≤ b) E2 (gb.named f.nm f.nl) [Value.string f.nm, Value.bool f.nl, Value.int IntKind.i64 gb.k, Value.int IntKind.i64 gb.wd, Value.int IntKind.i64 gb.id, Value.int IntKind.i64 gb.ix, Value.slice bp gb.kids.length bc] := by
           rw [hE2]
           have h1 : FdS (fun b => W.heap.size ≤ b ∧ b < wr.heap.size) A (gb.named f.nm f.nl) [Value.string f.nm, Value.bool f.nl, Value.int IntKind.i64 gb.k, Value.int IntKind.i64 gb.wd, Value.int IntKind.i64 gb.id, Value.int IntKind.i64 gb.ix, Value.slice bp gb.kids.length bc] := by
             have h2 : FdS (fun b => W.heap.size ≤ b ∧ b < wr.heap.size) A gb [Value.string gb.nm, Value.bool gb.nl, Value.int IntKind.i64 gb.k, Value.int IntKind.i64 gb.wd, Value.int IntKind.i64 gb.id, Value.int IntKind.i64 gb.ix, Value.slice bp gb.kids.length bc] :=
               HFD.out.keep (fun b hs hlt => ⟨HBA.out.block b hlt, hs.1, hlt⟩)
             cases gb with
             | mk nm nl fk wd id ix kids =>
               simp only [FdS] at h2
               obtain ⟨_, j1, j2, j3, j4, p9, c9, e9, h9⟩ := h2
               simp only [Fd.named, FdS]
               refine ⟨hnm, j1, j2, j3, j4, p9, c9, ?_, h9⟩
               simp only [List.cons.injEq] at e9 ⊢
               exact ⟨trivial, trivial, trivial, trivial, trivial, trivial, e9.2.2.2.2.2.2⟩
           exact h1.keep (fun b hs hlt => ⟨by
             show ((A.setCell ⟨wr.heap.size, 0, none⟩ (.string f.nm)).setCell ⟨wr.heap.size, 1, none⟩ (.bool f.nl)).heap[b]? = _
             rw [Below.heap_setCell _ _ _ b (by show b ≠ wr.heap.size; omega), Below.heap_setCell _ _ _ b (by show b ≠ wr.heap.size; omega)], hs.1⟩)
         rw [← hE2]
         have C2 := Lib.hid hC2
         have D2 := Lib.hid hD2
         have HB2 := Lib.hid hB2
         have HF2 := Lib.hid hF2
         clear hE2 hC2 hD2 hB2 hF2 HCE HDE
         have r0 := C2.out.row 0 _ rfl
         have r1 := C2.out.row 1 _ rfl
         have r2 := C2.out.row 2 _ rfl
         have r3 := C2.out.row 3 _ rfl
         have r4 := C2.out.row 4 _ rfl
         have r5 := C2.out.row 5 _ rfl
         have r6 := C2.out.row 6 _ rfl
         have q0 := D2.out.row 0 _ rfl
         have q1 := D2.out.row 1 _ rfl
         have q2 := D2.out.row 2 _ rfl
         have q3 := D2.out.row 3 _ rfl
         have q4 := D2.out.row 4 _ rfl
         have q5 := D2.out.row 5 _ rfl
         have q6 := D2.out.row 6 _ rfl
         have y0 := D2.out.frozen 0
         have y1 := D2.out.frozen 1
         have y2 := D2.out.frozen 2
         have y3 := D2.out.frozen 3
         have y4 := D2.out.frozen 4
         have y5 := D2.out.frozen 5
         have y6 := D2.out.frozen 6
         have hl2 := D2.out.lt
         have hl3 := C2.out.lt
         go_wp2_with fail
         rw [HBARE.out]
         exact field_back (fn := Tryz.f20) (g := gb.named f.nm f.nl) (p := bp) (cap := bc) rfl (l := [_, _, _, _, _, _, _]) rfl D2.out (by omega) HB2.out (S := fun b => W.heap.size ≤ b) (fun b hb => by have := HWS.out; omega) HF2.out rfl)
      · have n19 : (f.k == 19) = false := by
          rw [beq_eq_false_iff_ne]
          exact fun e => hkd (.inl e)
        have n20 : (f.k == 20) = false := by
          rw [beq_eq_false_iff_ne]
          exact fun e => hkd (.inr e)
        have HKD := Lib.hid hkd
        clear hkd
        go_wp2_with fail
        have hlist := HRL.out.list
        obtain ⟨hkc, hcm⟩ := HROOM.out
        rw [HKL.out, bareF_plain HKD.out]
        have hbl : (f.kids.map bareF).length = f.kids.length := List.length_map ..
        generalize f.kids.map bareF = bs at *
        rw [← hbl]
        have h1 := FdS.mk' (nl := f.nl) hnm ik iw ii ix' (kids := bs) (p := q) (cap := c) hkc hcm hlist
        have hF : FdS (fun b => W.heap.size ≤ b) (wr.setCell ⟨w.heap.size, 6, none⟩ (.slice q bs.length c)) (.mk f.nm f.nl f.k f.wd f.id f.ix bs) [.string f.nm, .bool f.nl, .int .i64 f.k, .int .i64 f.wd, .int .i64 f.id, .int .i64 f.ix, .slice q bs.length c] :=
          h1.keep (fun b hs hlt => ⟨Below.heap_setCell _ _ _ b (by have := HWS.out; show b ≠ w.heap.size; omega), hs⟩)
        exact field_back (fn := Tryz.f20) (g := .mk f.nm f.nl f.k f.wd f.id f.ix bs) (p := q) (cap := c) rfl (l := [_, _, _, _, _, _, _]) rfl (B2.out.other (a := ⟨w.heap.size, 6, none⟩) (by simp) (.slice q bs.length c)) (by omega) (HBR.out.setCell (p := ⟨w.heap.size, 6, none⟩) (Nat.le_refl _) _) (S := fun b => W.heap.size ≤ b) (fun b hb => by have := HWS.out; omega) hF rfl

theorem bare_calls (f : Fd) (ho : okF f) : ∀ (w : World) (p : Option Addr) (cap : Nat), FdAt w f [.string f.nm, .bool f.nl, .int .i64 f.k, .int .i64 f.wd, .int .i64 f.id, .int .i64 f.ix, .slice p f.kids.length cap] →
    Calls Tryz.prog 20 #[.agg #[.string f.nm, .bool f.nl, .int .i64 f.k, .int .i64 f.wd, .int .i64 f.id, .int .i64 f.ix, .slice p f.kids.length cap]] w (FieldPost w (bareF f)) := by
  revert ho
  refine fd_ind (P := fun f => okF f → ∀ (w : World) (p : Option Addr) (cap : Nat), FdAt w f [.string f.nm, .bool f.nl, .int .i64 f.k, .int .i64 f.wd, .int .i64 f.id, .int .i64 f.ix, .slice p f.kids.length cap] →
    Calls Tryz.prog 20 #[.agg #[.string f.nm, .bool f.nl, .int .i64 f.k, .int .i64 f.wd, .int .i64 f.id, .int .i64 f.ix, .slice p f.kids.length cap]] w (FieldPost w (bareF f))) (fun f ih ho w p cap hf => ?_) f
  obtain ⟨hne, hk, hl⟩ := okF_kids ho
  exact bare_step hf (by omega) hne (fun g hg w p cap => ih g hg (okL_mem hl g hg) w p cap)

end Go.Fld
