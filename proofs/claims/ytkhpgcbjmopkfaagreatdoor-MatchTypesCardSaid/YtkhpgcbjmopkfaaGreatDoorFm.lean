import Derived.Test.YtkhpgcbjmopkfaaGreatDoorFl
set_option linter.unusedVariables false
set_option maxRecDepth 100000
/-!
  WHAT IS WRONG WITH A FIELD: the reference's wrong. No conditions.
-/
namespace Go.Fld
open Go Go.RowKit Go.Proofs Go.ChangeShapes Go.WideShapes Go.ChangeAt Go.Shelf

theorem rcells_length {w0 : World} (x : Place w0) : (rcells x).length = 10 := by
  obtain ⟨p, cap, hcs, _⟩ := x.hf.shape
  unfold rcells
  rw [hcs]
  rfl
theorem flat_get {α β : Type} (f : α → List β) (n : Nat) (hf : ∀ a, (f a).length = n) : ∀ (l : List α) (j : Nat) (hj : j < l.length) (i : Nat), i < n → (l.flatMap f)[j * n + i]? = (f l[j])[i]?
  | a :: l, 0, _, i, hi => by
    simp only [List.flatMap_cons, Nat.zero_mul, Nat.zero_add, List.getElem_cons_zero]
    rw [List.getElem?_append_left (by rw [hf]; exact hi)]
  | a :: l, j + 1, hj, i, hi => by
    simp only [List.flatMap_cons, List.getElem_cons_succ]
    rw [List.getElem?_append_right (by rw [hf, Nat.succ_mul]; omega), hf]
    have := flat_get f n hf l j (by simpa using hj) i hi
    rw [← this]
    congr 1
    rw [Nat.succ_mul]
    omega

/-- The cells of the j-th node. -/
theorem OutAt.row {w0 W : World} {n0 g cap : Nat} {xs : List (Place w0)} (h : OutAt W n0 xs (.slice (some ⟨g, 0, none⟩) xs.length cap)) {j : Nat} (hj : j < xs.length) (i : Nat) (u : Value) (hu : (rcells xs[j])[i]? = some u) : W.cell? ⟨g, j * 10 + i, none⟩ = some u := by
  have h1 := h.cells (g := g) rfl (j * 10 + i) u
  have hi : i < 10 := by
    have := (List.getElem?_eq_some_iff.1 hu).1
    rwa [rcells_length] at this
  rw [flat_get rcells 10 rcells_length xs j hj i hi] at h1
  have h2 := h1 hu
  rw [Addr.add_lit] at h2
  simpa using h2

theorem idsAll_contains (i : Int) : ∀ (l : List Node) (ids : List Int), (idsAll ids l).contains i = (ids.contains i || l.any fun n => decide (n.f.k = 19) && decide (n.f.id = i))
  | [], ids => by simp [idsAll]
  | n :: l, ids => by
    have h := idsAll_contains i l (idsOf ids n)
    simp only [idsAll, List.foldl_cons] at h ⊢
    rw [h]
    unfold idsOf
    by_cases hk : n.f.k = 19
    · rw [if_pos hk]
      simp only [List.any_cons, hk, List.contains_cons]
      by_cases hi : i = n.f.id
      · subst hi; simp
      · have hi' : ¬ n.f.id = i := fun e => hi e.symm
        have hi2 : (i == n.f.id) = false := by simpa using hi
        simp [hi2, hi']
    · rw [if_neg hk]
      simp [List.any_cons, hk]

set_option maxHeartbeats 4000000 in
theorem rwrong_calls {w0 w : World} {n0 g cap : Nat} {xs : List (Place w0)} (hO : OutAt w n0 xs (.slice (some ⟨g, 0, none⟩) xs.length cap)) (hlen : xs.length ≤ 257) (hb : Below w0.heap.size w0 w) {k : Nat} (hk : k < xs.length) :
    Calls Tryz.prog 35 #[.slice (some ⟨g, 0, none⟩) xs.length cap, .int .i64 (k : Nat)] w fun e w' => e = .returned (.int .i64 (wrongE (xs[k]).n k (idsAll [] ((xs.take k).map Place.n)))) ∧ Below w.heap.size w w' := by
  have hrow := fun i u => hO.row hk i u
  have HO := Lib.hid hO
  generalize hx : xs[k] = x at *
  have HX := Lib.hid hx
  obtain ⟨fp, fcap, hcs, hkd, hnm, ik, iw, ii, ix⟩ := x.hf.shape
  obtain ⟨ap, acap, hav, hal, ham, _⟩ := x.ha
  have hrc : rcells x = [.slice x.q x.n.d x.qc, .string x.n.f.nm, .bool x.n.f.nl, .int .i64 x.n.f.k, .int .i64 x.n.f.wd, .int .i64 x.n.f.id, .int .i64 x.n.f.ix, .slice fp x.n.f.kids.length fcap, .slice ap x.n.ahead.length acap, .bool x.n.inD] := by
    unfold rcells
    rw [hcs, hav]
    rfl
  rw [hrc] at hrow
  have hf := x.hf.below hb
  rw [hcs] at hf
  have hahd := x.ha.below hb
  rw [hav] at hahd
  obtain ⟨dq, dc, hdq, hdc, hdm, _⟩ := x.hq
  cases hdq
  obtain ⟨res, hres⟩ : ∃ r, r = wrongE x.n k (idsAll [] ((xs.take k).map Place.n)) := ⟨_, rfl⟩
  rw [← hres]
  unfold wrongE at hres
  rw [idsAll_contains] at hres
  have c0 := hrow 0 _ rfl
  have c1 := hrow 1 _ rfl
  have c2 := hrow 2 _ rfl
  have c3 := hrow 3 _ rfl
  have c4 := hrow 4 _ rfl
  have c5 := hrow 5 _ rfl
  have c6 := hrow 6 _ rfl
  have c7 := hrow 7 _ rfl
  have c8 := hrow 8 _ rfl
  have c9 := hrow 9 _ rfl
  simp only [Nat.add_zero] at c0
  have HR := Lib.hid hres
  have HF := Lib.hid hf
  have HA := Lib.hid hahd
  have HK := Lib.hid hkd
  have HB := Lib.hid hb
  have hblk := World.block_lt_of_cell? w _ c0
  simp only at hblk
  obtain ⟨hcap, hcapm⟩ : xs.length ≤ cap ∧ cap ≤ maxLen := by
    rcases hO.2 with ⟨e, _⟩ | ⟨g', c', cur, e, _, _, h1, h2, _⟩
    · cases e
    · cases e; exact ⟨h1, h2⟩
  unfold maxLen at ham hnm hcapm hdm
  clear hO hx hrow hcs hkd hav hrc hf hahd hres hb
  generalize x.n = n at *
  generalize x.q = q at *
  generalize x.qc = qc at *
  obtain ⟨d, ah, f, inD⟩ := n
  simp only at *
  go_enter Tryz.func35, Tryz.ntmps35
  go_wp2_with fail
  · have e : res = 33 := by rw [HR.out, if_pos (by omega)]
    go_ret
    exact ⟨by rw [e]; rfl, ((Below.refl _ w).alloc (Nat.le_refl _) _).alloc (by simp) _⟩
  · have e : res = 34 := by rw [HR.out, if_neg (by omega), if_pos (by omega)]
    go_ret
    exact ⟨by rw [e]; rfl, ((Below.refl _ w).alloc (Nat.le_refl _) _).alloc (by simp) _⟩
  obtain ⟨W, hW⟩ : ∃ W, W = ((w.alloc (.cells #[Value.slice q d qc, Value.string f.nm, Value.bool f.nl, Value.int IntKind.i64 f.k, Value.int IntKind.i64 f.wd, Value.int IntKind.i64 f.id, Value.int IntKind.i64 f.ix, Value.slice fp f.kids.length fcap, Value.slice ap ah.length acap, Value.bool inD] 88)).alloc (.cells #[Value.string f.nm, Value.bool f.nl, Value.int IntKind.i64 f.k, Value.int IntKind.i64 f.wd, Value.int IntKind.i64 f.id, Value.int IntKind.i64 f.ix, Value.slice fp f.kids.length fcap] 59)) := ⟨_, rfl⟩
  have a1 : BoxN W w.heap.size 88 [Value.slice q d qc, Value.string f.nm, Value.bool f.nl, Value.int IntKind.i64 f.k, Value.int IntKind.i64 f.wd, Value.int IntKind.i64 f.id, Value.int IntKind.i64 f.ix, Value.slice fp f.kids.length fcap, Value.slice ap ah.length acap, Value.bool inD] := by
    rw [hW]
    exact (BoxN.new w 88 [Value.slice q d qc, Value.string f.nm, Value.bool f.nl, Value.int IntKind.i64 f.k, Value.int IntKind.i64 f.wd, Value.int IntKind.i64 f.id, Value.int IntKind.i64 f.ix, Value.slice fp f.kids.length fcap, Value.slice ap ah.length acap, Value.bool inD]).alloc _
  have a2 : BoxN W (w.heap.size + 1) 59 [Value.string f.nm, Value.bool f.nl, Value.int IntKind.i64 f.k, Value.int IntKind.i64 f.wd, Value.int IntKind.i64 f.id, Value.int IntKind.i64 f.ix, Value.slice fp f.kids.length fcap] := by
    rw [hW]
    have := BoxN.new (w.alloc (.cells #[Value.slice q d qc, Value.string f.nm, Value.bool f.nl, Value.int IntKind.i64 f.k, Value.int IntKind.i64 f.wd, Value.int IntKind.i64 f.id, Value.int IntKind.i64 f.ix, Value.slice fp f.kids.length fcap, Value.slice ap ah.length acap, Value.bool inD] 88)) 59 [Value.string f.nm, Value.bool f.nl, Value.int IntKind.i64 f.k, Value.int IntKind.i64 f.wd, Value.int IntKind.i64 f.id, Value.int IntKind.i64 f.ix, Value.slice fp f.kids.length fcap]
    rwa [World.size_alloc] at this
  have hBW : Below w.heap.size w W := by rw [hW]; exact ((Below.refl _ w).alloc (Nat.le_refl _) _).alloc (by simp) _
  have A1 := Lib.hid a1
  have A2 := Lib.hid a2
  have HBW := Lib.hid hBW
  have HW := Lib.hid hW
  clear a1 a2 hBW hW c0 c1 c2 c3 c4 c5 c6 c7 c8 c9
  rw [← HW.out]
  have HR := Lib.hid (show _ from by have := HR.out; rw [if_neg (by omega), if_neg (by omega)] at this; exact this)
  clear HW
  refine (rnamed_calls f.nm (by unfold maxLen; omega) W).mono ?_; rintro e W ⟨rfl, rfl⟩
  generalize nameB f.nm = nb at *
  cases nb with
  | false =>
    have e : res = 30 := by rw [HR.out, if_pos rfl]
    go_wp2_with fail
    go_ret
    exact ⟨by rw [e]; rfl, HBW.out⟩
  | true =>
  have HR := Lib.hid (show _ from by have := HR.out; rw [if_neg (by decide)] at this; exact this)
  have c8 := A1.out.row 8 _ rfl
  go_wp2_with fail
  obtain ⟨_, _, eA, _, _, hAC⟩ := HA.out
  cases eA
  have HAC := Lib.hid hAC
  clear hAC c8
  go_loopw [30] (fun i wr => ∃ j : Nat, j ≤ ah.length ∧ i = .int .i64 j ∧ Hid (Below W.heap.size W wr) ∧ Hid (∀ (t : Nat) (ht : t < ah.length), t < j → (ah[t].nm.toList == f.nm.toList) = false)) (fun i _ => ah.length - (intOf i).toNat)
  case atStart => exact ⟨0, by omega, rfl, Lib.hid (Below.refl _ _), Lib.hid (fun t ht h => absurd h (Nat.not_lt_zero _))⟩
  case round =>
    obtain ⟨j, hj, rfl, HBR, HN⟩ := hrel
    have hbw : Below w.heap.size w wr := HBW.out.trans (HBR.out.mono HBW.out.size)
    have HBWR := Lib.hid hbw
    have B1 := Lib.hid (A1.out.below HBR.out A1.out.lt)
    have B2 := Lib.hid (A2.out.below HBR.out A2.out.lt)
    have hlt2 := B2.out.lt
    by_cases hlt : j < ah.length
    · obtain ⟨b', o', fq, cap', rfl, -, c0, c1, c2, c3, c4, c5, c6⟩ := HAC.out.seven j hlt
      replace c0 := cell_below hbw c0
      replace c1 := cell_below hbw c1
      replace c2 := cell_below hbw c2
      replace c3 := cell_below hbw c3
      replace c4 := cell_below hbw c4
      replace c5 := cell_below hbw c5
      replace c6 := cell_below hbw c6
      have r0 := B2.out.row 0 _ rfl
      have Next : Hid ((ah[j].nm.toList == f.nm.toList) = false → ∀ (t : Nat) (ht : t < ah.length), t < j + 1 → (ah[t].nm.toList == f.nm.toList) = false) := Lib.hid (fun hf t ht htj => by
        by_cases e : t = j
        · subst e; exact hf
        · exact HN.out t ht (by omega))
      have Hit : Hid ((ah[j].nm.toList == f.nm.toList) = true → (ah.any fun g => g.nm.toList == f.nm.toList) = true) := Lib.hid (fun ht => List.any_eq_true.2 ⟨ah[j], List.getElem_mem hlt, ht⟩)
      clear hbw
      generalize ah[j] = gg at *
      cases hq : (gg.nm.toList == f.nm.toList) with
      | true =>
        have e : res = 31 := by rw [HR.out, if_pos (Hit.out hq)]
        have HE := Lib.hid e
        clear e
        go_wp2_with fail
        go_ret
        exact ⟨by rw [HE.out]; rfl, HBWR.out.alloc HBWR.out.size _⟩
      | false =>
        have HN2 := Lib.hid (Next.out hq)
        go_wp2_with fail
        go_round
        case rel => exact ⟨j + 1, by omega, by go_num, Lib.hid (HBR.out.alloc HBR.out.size _), HN2⟩
        case measure => simp [intOf]; omega
    · have hnone : (ah.any fun g => g.nm.toList == f.nm.toList) = false := by
        rw [List.any_eq_false]
        intro y hy
        obtain ⟨t, ht, rfl⟩ := List.getElem_of_mem hy
        rw [HN.out t ht (by omega)]
        simp
      have HR := Lib.hid (show _ from by have := HR.out; rw [if_neg (by rw [hnone]; decide)] at this; exact this)
      clear hnone hbw
      have r2 := B2.out.row 2 _ rfl
      have r3 := B2.out.row 3 _ rfl
      have r4 := B2.out.row 4 _ rfl
      have r5 := B2.out.row 5 _ rfl
      have r6 := B2.out.row 6 _ rfl
      go_wp2_with fail
      refine (rshaped_calls (HF.out.below HBWR.out)).mono ?_; rintro e W2 ⟨rfl, hb1⟩
      have HB2 := Lib.hid (HBWR.out.trans (hb1.mono HBWR.out.size))
      obtain ⟨ft, hft⟩ : ∃ b, b = fitsB f := ⟨_, rfl⟩
      rw [← hft] at HR ⊢
      have HFT := Lib.hid hft
      clear hft r2 r3 r4 r5 r6
      have C1 := Lib.hid (B1.out.below hb1 B1.out.lt)
      have C2 := Lib.hid (B2.out.below hb1 B2.out.lt)
      clear hb1
      cases ft with
      | false =>
        have e : res = 32 := by rw [HR.out, if_pos rfl]
        have HE := Lib.hid e
        clear e
        go_wp2_with fail
        go_ret
        exact ⟨by rw [HE.out]; rfl, HB2.out⟩
      | true =>
      have HR := Lib.hid (show _ from by have := HR.out; rw [if_neg (by decide)] at this; exact this)
      have r0 := C2.out.row 0 _ rfl
      have r1 := C2.out.row 1 _ rfl
      have r2 := C2.out.row 2 _ rfl
      have r3 := C2.out.row 3 _ rfl
      have r4 := C2.out.row 4 _ rfl
      have r5 := C2.out.row 5 _ rfl
      have r6 := C2.out.row 6 _ rfl
      go_wp2_with fail
      refine (rnulls_calls (HF.out.below HB2.out) (fun h => fits_kids (by simpa using HFT.out.symm) (.inr h))).mono ?_; rintro e W3 ⟨rfl, hb1⟩
      have HB3 := Lib.hid (HB2.out.trans (hb1.mono HB2.out.size))
      have D1 := Lib.hid (C1.out.below hb1 C1.out.lt)
      have D2 := Lib.hid (C2.out.below hb1 C2.out.lt)
      generalize nullsB f = nu at *
      clear hb1 r0 r1 r2 r3 r4 r5 r6
      cases nu with
      | false =>
        have e : res = 35 := by rw [HR.out, if_pos rfl]
        have HE := Lib.hid e
        clear e
        go_wp2_with fail
        go_ret
        exact ⟨by rw [HE.out]; rfl, HB3.out⟩
      | true =>
      have HR := Lib.hid (show _ from by have := HR.out; rw [if_neg (by decide)] at this; exact this)
      have r2 := D2.out.row 2 _ rfl
      have m9 := D1.out.row 9 _ rfl
      by_cases k19 : f.k = 19
      · have hkn := fits_kids (by simpa using HFT.out.symm) (.inl k19)
        cases hkd : f.kids with
        | nil => exact absurd hkd hkn
        | cons gk r =>
        have hC := HK.out
        have E0 := Lib.hid (show res = if (inD || (gk.nl || ((xs.take k).map Place.n).any fun n => decide (n.f.k = 19) && decide (n.f.id = f.id))) = true then 36 else 0 by
          rw [HR.out, k19]
          cases inD <;> simp [firstNl, hkd])
        rw [hkd] at hC
        obtain ⟨kp, kcap, e1, kl, km, hC⟩ := hC
        cases e1
        obtain ⟨b, o, cs', e1, e2, e3⟩ := hC.get 0 (by simp)
        obtain ⟨p', cap', hcs', _⟩ := e3.shape
        have g1 := e2 1 (.bool gk.nl) (by rw [hcs']; rfl)
        have e4 : o + (0 + 7 * 0) + 1 = o + 1 := by omega
        rw [e4] at g1
        subst e1
        have g1 := cell_below (HB.out.trans (HB3.out.mono HB.out.size)) g1
        have gblk := World.block_lt_of_cell? W3 _ g1
        simp only at gblk
        have r3 := D2.out.row 6 _ rfl
        have r5 := D2.out.row 4 _ rfl
        rw [k19] at r2
        rw [hkd] at r3
        clear hC e2 e3 hcs' e4 hkn HR
        generalize hg : (gk :: r).length = gn at *
        have hgn : 0 < gn := by rw [← hg]; simp
        clear hg
        generalize gk.nl = gl at *
        cases inD with
        | true =>
          have e : res = 36 := by rw [E0.out]; simp
          have HE := Lib.hid e
          clear e
          go_wp2_with fail
          go_ret
          exact ⟨by rw [HE.out]; rfl, HB3.out⟩
        | false =>
        cases gl with
        | true =>
          have e : res = 36 := by rw [E0.out]; simp
          have HE := Lib.hid e
          clear e
          go_wp2_with fail
          go_ret
          exact ⟨by rw [HE.out]; rfl, HB3.out⟩
        | false =>
        have hk0 : k ≤ xs.length := by omega
        go_wp2_with fail
        have HD := Lib.hid (And.intro D1.out D2.out)
        clear g1 gblk r2 r3 r5 m9
        go_loopw [75] (fun i wr => ∃ j : Nat, j ≤ k ∧ i = .int .i64 j ∧ Hid (Below W3.heap.size W3 wr) ∧ Hid (∀ (t : Nat) (ht : t < xs.length), t < j → (decide ((xs[t]).n.f.k = 19) && decide ((xs[t]).n.f.id = f.id)) = false)) (fun i _ => k - (intOf i).toNat)
        case atStart => exact ⟨0, by omega, rfl, Lib.hid (Below.refl _ _), Lib.hid (fun t ht h => absurd h (Nat.not_lt_zero _))⟩
        case round =>
          obtain ⟨j, hj, rfl, HBQ, HN⟩ := hrel
          have hbq : Below w.heap.size w wr := HB3.out.trans (HBQ.out.mono HB3.out.size)
          have HBQW := Lib.hid hbq
          have Q2 := Lib.hid (HD.out.2.below HBQ.out HD.out.2.lt)
          have hlq2 := Q2.out.lt
          have hlq : g < wr.heap.size := by have := hbq.size; omega
          by_cases hlt : j < k
          · have hjx : j < xs.length := by omega
            have hrow := fun i u => HO.out.row hjx i u
            have Next : Hid ((decide ((xs[j]).n.f.k = 19) && decide ((xs[j]).n.f.id = f.id)) = false → ∀ (t : Nat) (ht : t < xs.length), t < j + 1 → (decide ((xs[t]).n.f.k = 19) && decide ((xs[t]).n.f.id = f.id)) = false) := Lib.hid (fun hf t ht htj => by
              by_cases e : t = j
              · subst e; exact hf
              · exact HN.out t ht (by omega))
            have Hit : Hid ((decide ((xs[j]).n.f.k = 19) && decide ((xs[j]).n.f.id = f.id)) = true → (((xs.take k).map Place.n).any fun n => decide (n.f.k = 19) && decide (n.f.id = f.id)) = true) := Lib.hid (fun ht => by
              rw [List.any_eq_true]
              exact ⟨(xs[j]).n, List.mem_map.2 ⟨xs[j], List.mem_iff_getElem.2 ⟨j, by rw [List.length_take]; omega, by simp⟩, rfl⟩, ht⟩)
            generalize xs[j] = y at *
            obtain ⟨yp, ycap, hycs, -⟩ := y.hf.shape
            obtain ⟨yap, yacap, hyav, -⟩ := y.ha
            have hyr : rcells y = [.slice y.q y.n.d y.qc, .string y.n.f.nm, .bool y.n.f.nl, .int .i64 y.n.f.k, .int .i64 y.n.f.wd, .int .i64 y.n.f.id, .int .i64 y.n.f.ix, .slice yp y.n.f.kids.length ycap, .slice yap y.n.ahead.length yacap, .bool y.n.inD] := by
              unfold rcells
              rw [hycs, hyav]
              rfl
            rw [hyr] at hrow
            have c0 := cell_below hbq (hrow 0 _ rfl)
            have c1 := cell_below hbq (hrow 1 _ rfl)
            have c2 := cell_below hbq (hrow 2 _ rfl)
            have c3 := cell_below hbq (hrow 3 _ rfl)
            have c4 := cell_below hbq (hrow 4 _ rfl)
            have c5 := cell_below hbq (hrow 5 _ rfl)
            have c6 := cell_below hbq (hrow 6 _ rfl)
            have c7 := cell_below hbq (hrow 7 _ rfl)
            have c8 := cell_below hbq (hrow 8 _ rfl)
            have c9 := cell_below hbq (hrow 9 _ rfl)
            simp only [Nat.add_zero] at c0
            clear hrow hycs hyav hyr hbq
            have s4 := Q2.out.row 4 _ rfl
            by_cases hyk : y.n.f.k = 19
            · rw [hyk] at c3
              by_cases hyi : y.n.f.id = f.id
              · have e : res = 36 := by
                  have h1 := Hit.out (by rw [hyk, hyi]; simp)
                  rw [E0.out, h1]
                  simp
                have HE := Lib.hid e
                rw [hyi] at c5
                clear hyk hyi e
                go_wp2_with fail
                go_ret
                exact ⟨by rw [HE.out]; rfl, HBQW.out.alloc HBQW.out.size _⟩
              · have HN2 := Lib.hid (Next.out (by simp [hyi]))
                have hyi' : (y.n.f.id == f.id) = false := by simpa using hyi
                clear hyk hyi
                go_wp2_with fail
                go_round
                case rel => exact ⟨j + 1, by omega, by go_num, Lib.hid (HBQ.out.alloc HBQ.out.size _), HN2⟩
                case measure => simp [intOf]; omega
            · have HN2 := Lib.hid (Next.out (by simp [hyk]))
              have hyk' : (y.n.f.k == 19) = false := by simpa using hyk
              clear hyk
              go_wp2_with fail
              go_round
              case rel => exact ⟨j + 1, by omega, by go_num, Lib.hid (HBQ.out.alloc HBQ.out.size _), HN2⟩
              case measure => simp [intOf]; omega
          · have e : res = 0 := by
              have h1 : (((xs.take k).map Place.n).any fun n => decide (n.f.k = 19) && decide (n.f.id = f.id)) = false := by
                rw [List.any_eq_false]
                intro y hy
                obtain ⟨z, hz, rfl⟩ := List.mem_map.1 hy
                obtain ⟨t, ht, rfl⟩ := List.getElem_of_mem hz
                have ht' : t < k ∧ t < xs.length := by rw [List.length_take] at ht; omega
                have := HN.out t ht'.2 (by omega)
                rw [List.getElem_take]
                rw [this]
                simp
              rw [E0.out, h1]
              simp
            have HE := Lib.hid e
            clear e hbq
            go_wp2_with fail
            go_ret
            exact ⟨by rw [HE.out]; rfl, HBQW.out⟩
      · by_cases k20 : f.k = 20
        · have E0 := Lib.hid (show res = if inD = true then 36 else 0 by
            rw [HR.out, k20]
            simp)
          rw [k20] at r2
          clear HR k19 k20
          cases inD <;>
            (have e := E0.out
             simp at e
             have HE := Lib.hid e
             clear E0 e
             go_wp2_with fail
             go_ret
             exact ⟨by rw [HE.out]; rfl, HB3.out⟩)
        · have e : res = 0 := by
            rw [HR.out]
            simp [k19, k20]
          have HE := Lib.hid e
          have n19 : (f.k == 19) = false := by simpa using k19
          have n20 : (f.k == 20) = false := by simpa using k20
          clear HR k19 k20 e
          cases inD <;>
            (go_wp2_with fail
             go_ret
             exact ⟨by rw [HE.out]; rfl, HB3.out⟩)

end Go.Fld
