import Derived.Test.YtkhpgcbjmopkfaaGreatDoorT00
import Derived.Test.YtkhpgcbjmopkfaaGreatDoorT09
import Derived.Maps.AppendAt
set_option linter.unusedVariables false
set_option linter.unusedSimpArgs false
set_option linter.unnecessarySimpa false
set_option maxRecDepth 100000
namespace Go.Fld
open Go Go.RowKit Go.Proofs Go.ChangeShapes Go.WideShapes Go.ChangeAt Go.Shelf
theorem boxes1 (w : World) (t1 : TypeId) (l1 : List Value) : ∃ W, W = w.alloc (.cells l1.toArray t1) ∧ BoxN W w.heap.size t1 l1 ∧ Below w.heap.size w W :=
 ⟨_, rfl, BoxN.new w t1 l1, (Below.refl _ w).alloc (Nat.le_refl _) _⟩
theorem boxes2 (w : World) (t1 : TypeId) (l1 : List Value) (t2 : TypeId) (l2 : List Value) : ∃ W, W = (w.alloc (.cells l1.toArray t1)).alloc (.cells l2.toArray t2) ∧ BoxN W w.heap.size t1 l1 ∧ BoxN W (w.heap.size + 1) t2 l2 ∧ Below w.heap.size w W :=
 ⟨_, rfl, (BoxN.new w t1 l1).alloc _, by have := BoxN.new (w.alloc (.cells l1.toArray t1)) t2 l2; rwa [World.size_alloc] at this, ((Below.refl _ w).alloc (Nat.le_refl _) _).alloc (by simp) _⟩
theorem boxes3 (w : World) (t1 : TypeId) (l1 : List Value) (t2 : TypeId) (l2 : List Value) (t3 : TypeId) (l3 : List Value) : ∃ W, W = ((w.alloc (.cells l1.toArray t1)).alloc (.cells l2.toArray t2)).alloc (.cells l3.toArray t3) ∧ BoxN W w.heap.size t1 l1 ∧ BoxN W (w.heap.size + 1) t2 l2 ∧ BoxN W (w.heap.size + 1 + 1) t3 l3 ∧ Below w.heap.size w W := by
 obtain ⟨V, hV, a1, a2, hb⟩ := boxes2 w t1 l1 t2 l2
 have hs : V.heap.size = w.heap.size + 1 + 1 := by rw [hV, World.size_alloc, World.size_alloc]
 refine ⟨_, by rw [← hV], a1.alloc _, a2.alloc _, ?_, hb.alloc (by omega) _⟩
 have := BoxN.new V t3 l3
 rwa [hs] at this
theorem BoxN.new' {W : World} {n : Nat} (h : W.heap.size = n) (t : TypeId) (l : List Value) : BoxN (W.alloc (.cells l.toArray t)) n t l := by rw [← h]; exact BoxN.new W t l
theorem put3_box {W : World} {rb : Nat} {t : TypeId} {l : List Value} (hl : l.length = 3) (h : BoxN W rb t l) (c0 c1 c2 : Value) : BoxN (((W.setCell ⟨rb, 0, none⟩ c0).setCell ⟨rb, 1, none⟩ c1).setCell ⟨rb, 2, none⟩ c2) rb t [c0, c1, c2] := by
 have b := ((h.set 0 c0).set 1 c1).set 2 c2
 match l, hl with
 | [_, _, _], _ => exact b
theorem put3_below {W w : World} {n rb : Nat} (h : Below n w W) (hn : n ≤ rb) (c0 c1 c2 : Value) : Below n w (((W.setCell ⟨rb, 0, none⟩ c0).setCell ⟨rb, 1, none⟩ c1).setCell ⟨rb, 2, none⟩ c2) :=
 ((h.setCell (p := ⟨rb, 0, none⟩) hn c0).setCell (p := ⟨rb, 1, none⟩) hn c1).setCell (p := ⟨rb, 2, none⟩) hn c2
def partsD (d : Dt) : List Dt := if 0 < d.dict.length then d.dict else d.kids
def DtsPost (w : World) (l : List Dt) (e : Ending) (w' : World) : Prop := ∃ p c, e = .returned (.slice p l.length c) ∧ M.At (fun _ => True) w' (.many 6 (l.map dtR)) (.slice p l.length c) ∧ Below w.heap.size w w'
theorem parts_calls {w : World} {d : Dt} {ds : List Value} (hd : DAt (fun _ => True) w d ds) : Calls Tryz.prog 89 #[.agg ds.toArray] w (DtsPost w (partsD d)) := by
 obtain ⟨bp, bc, kp, kc, dp, dc, rfl, -, hk, hdd⟩ := hd.shape
 have HK := zh hk
 have HD := zh hdd
 clear hk hdd hd
 have hB : Below w.heap.size w (w.alloc (.cells #[.int .i64 d.len, .int .i64 d.off, .int .i64 d.nul, .slice bp d.bufs.length bc, .slice kp d.kids.length kc, .slice dp d.dict.length dc] 75)) := (Below.refl _ w).alloc (Nat.le_refl _) _
 have HB := zh hB
 clear hB
 by_cases h : 0 < d.dict.length
 ·have HE := zh (show partsD d = d.dict from if_pos h)
  go_enter Tryz.func89, Tryz.ntmps89
  go_wp2_with fail
  rw [HE.o]
  go_ret
  exact ⟨_, _, rfl, HD.o.below HB.o, HB.o⟩
 ·have HE := zh (show partsD d = d.kids from if_neg h)
  go_enter Tryz.func89, Tryz.ntmps89
  go_wp2_with fail
  rw [HE.o]
  go_ret
  exact ⟨_, _, rfl, HK.o.below HB.o, HB.o⟩
def endsF : Fd := .mk ⟨#[101, 110, 100, 115]⟩ false 5 0 0 0 []
def partF (f : Fd) (k : Nat) : Fd := if f.k = 20 then (if k = 0 then endsF else f.kids[0]?.getD endsF) else f.kids[k]?.getD endsF
def FdPost (w : World) (g : Fd) (e : Ending) (w' : World) : Prop := ∃ p cap, e = .returned (.agg #[.string g.nm, .bool g.nl, .int .i64 g.k, .int .i64 g.wd, .int .i64 g.id, .int .i64 g.ix, .slice p g.kids.length cap]) ∧
 FdAt w' g [.string g.nm, .bool g.nl, .int .i64 g.k, .int .i64 g.wd, .int .i64 g.id, .int .i64 g.ix, .slice p g.kids.length cap] ∧ Below w.heap.size w w'
theorem fd_res {fn : Func} {i : Nat} (hfn : fn.results = #[.cell i 59]) {W : World} {tmps : Array Value} {rb : Nat} {c0 c1 c2 c3 c4 c5 c6 : Value} (ht : tmps.getD i undef = .pointer (some ⟨rb, 0, none⟩)) (hw : RowAt W rb [c0, c1, c2, c3, c4, c5, c6]) :
  (results fn tmps).run Tryz.prog W = .ok (.agg #[c0, c1, c2, c3, c4, c5, c6]) W := by
 have h0 := hw 0 _ rfl
 have h1 := hw 1 _ rfl
 have h2 := hw 2 _ rfl
 have h3 := hw 3 _ rfl
 have h4 := hw 4 _ rfl
 have h5 := hw 5 _ rfl
 have h6 := hw 6 _ rfl
 rw [Array.getD_eq_getD_getElem?] at ht
 simp [results, hfn, go_sem, ht, h0, h1, h2, h3, h4, h5, h6]
theorem fd_back {fn : Func} {i : Nat} (hfn : fn.results = #[.cell i 59]) {w W : World} {rb : Nat} {g : Fd} {p : Option Addr} {cap : Nat} (hbx : BoxN W rb 59 [.string g.nm, .bool g.nl, .int .i64 g.k, .int .i64 g.wd, .int .i64 g.id, .int .i64 g.ix, .slice p g.kids.length cap])
  (hg : FdAt W g [.string g.nm, .bool g.nl, .int .i64 g.k, .int .i64 g.wd, .int .i64 g.id, .int .i64 g.ix, .slice p g.kids.length cap]) (hB : Below w.heap.size w W)
  {tmps : Array Value} (ht : tmps.getD i undef = .pointer (some ⟨rb, 0, none⟩)) : bodyPost Tryz.prog fn (FdPost w g) Exit.ret { tmps := tmps, defers := [] } W :=
 bodyPost_ret (fd_res hfn ht hbx.row) rfl ⟨p, cap, rfl, hg, hB⟩
theorem partField_calls {w : World} {f : Fd} {fs : List Value} (hf : FdAt w f fs) (k : Nat) (hk : (f.k = 20 → k = 0 ∨ 0 < f.kids.length) ∧ (f.k ≠ 20 → k < f.kids.length)) : Calls Tryz.prog 90 #[.agg fs.toArray, .int .i64 k] w (FdPost w (partF f k)) := by
 obtain ⟨fp, fc, rfl, hL, -⟩ := hf.shape
 obtain ⟨_, _, e, hr1, hr2, hC⟩ := hL
 cases e
 have HC := zh hC
 unfold maxLen at hr2
 have hB : Below w.heap.size w ((w.alloc (.cells #[.string f.nm, .bool f.nl, .int .i64 f.k, .int .i64 f.wd, .int .i64 f.id, .int .i64 f.ix, .slice fp f.kids.length fc] 59))) := (Below.refl _ w).alloc (Nat.le_refl _) _
 have HB := zh hB
 have hsz : (w.alloc (.cells #[.string f.nm, .bool f.nl, .int .i64 f.k, .int .i64 f.wd, .int .i64 f.id, .int .i64 f.ix, .slice fp f.kids.length fc] 59)).heap.size = w.heap.size + 1 := World.size_alloc _ _
 have HSZ := zh hsz
 clear hf hC hB hsz
 have done : ∀ (j : Nat) (hj : j < f.kids.length) (ms : Bool), True := fun _ _ _ => trivial
 clear done
 cases q20 : (f.k == 20) with
 | true =>
  have e20 : f.k = 20 := by simpa using q20
  cases qk : ((k : Int) == 0) with
  | true =>
   have ek : k = 0 := by have : (k : Int) = 0 := (by simpa using qk); omega
   have HE := zh (show partF f k = endsF by unfold partF; rw [if_pos e20, if_pos ek])
   clear e20 ek hk
   go_enter Tryz.func90, Tryz.ntmps90
   go_wp2_with fail
   rw [HE.o]
   refine fd_back (i := 4) (g := endsF) (p := none) (cap := 0) rfl (BoxN.new' HSZ.o _ _) ?_ (HB.o.alloc HB.o.size _) rfl
   simp only [FdAt, endsF]
   exact ⟨by decide, ⟨by decide, by decide⟩, ⟨by decide, by decide⟩, ⟨by decide, by decide⟩, ⟨by decide, by decide⟩, none, 0, rfl, Nat.le_refl _, Nat.zero_le _, trivial⟩
  | false =>
   have ek : k ≠ 0 := by
    intro e
    subst e
    simp at qk
   have h0 : 0 < f.kids.length := by rcases hk.1 e20 with e | e <;> first | exact e | exact absurd e ek
   have HE := zh (show partF f k = f.kids[0] by unfold partF; rw [if_pos e20, if_neg ek, List.getElem?_eq_getElem h0]; rfl)
   obtain ⟨b, o, p1, c1, rfl, g1, s0, s1, s2, s3, s4, s5, s6⟩ := HC.o.seven 0 h0
   simp only [Nat.zero_mul, Nat.add_zero] at s0 s1 s2 s3 s4 s5 s6
   have G1 := zh g1
   have hblk := World.block_lt_of_cell? w _ s0
   simp only at hblk
   rw [HE.o]
   have h0z : (0 : Int) < (f.kids.length : Int) := by omega
   generalize f.kids[0] = g at *
   clear e20 ek hk h0 HE g1
   go_enter Tryz.func90, Tryz.ntmps90
   go_wp2_with fail
   exact fd_back (i := 4) rfl (BoxN.new' HSZ.o _ _) ((G1.o.below HB.o).below ((Below.refl _ _).alloc (Nat.le_refl _) _)) (HB.o.alloc HB.o.size _) rfl
 | false =>
  have e20 : f.k ≠ 20 := by simpa using q20
  have h0 : k < f.kids.length := hk.2 e20
  have HE := zh (show partF f k = f.kids[k] by unfold partF; rw [if_neg e20, List.getElem?_eq_getElem h0]; rfl)
  obtain ⟨b, o, p1, c1, rfl, g1, s0, s1, s2, s3, s4, s5, s6⟩ := HC.o.seven k h0
  have G1 := zh g1
  have hblk := World.block_lt_of_cell? w _ s0
  simp only at hblk
  rw [HE.o]
  generalize f.kids[k] = g at *
  clear e20 hk HE g1
  go_enter Tryz.func90, Tryz.ntmps90
  go_wp2_with fail
  exact fd_back (i := 4) rfl (BoxN.new' HSZ.o _ _) ((G1.o.below HB.o).below ((Below.refl _ _).alloc (Nat.le_refl _) _)) (HB.o.alloc HB.o.size _) rfl
def nullsE (f : Fd) (d : Dt) (n o : Nat) : Int := if d.nul ≠ (countF f.k d.bufs o n : Int) ∨ (0 < countF f.k d.bufs o n ∧ f.nl = false) then 81 else 0
set_option maxHeartbeats 2000000 in
theorem nulls_at_calls {w : World} {f : Fd} {d : Dt} {fs ds : List Value} (hf : FdAt w f fs) (hd : DAt (fun _ => True) w d ds) (hs : validB f.k = true → 0 < d.bufs.length) {n o : Nat} (hn : d.len = n) (ho : d.off = o) (hb : n ≤ 8192 ∧ o ≤ 8192) :
  Calls Tryz.prog 97 #[.agg fs.toArray, .agg ds.toArray] w (FaultN w (nullsE f d n o)) := by
 have HF := zh hf
 have HD := zh hd
 obtain ⟨fp, fc, rfl, -⟩ := hf.shape
 obtain ⟨bp, bc, kp, kc, dp, dc, rfl, -, -, -⟩ := hd.shape
 have HS := zh hs
 have HN := zh (And.intro hn (And.intro ho hb))
 clear hf hd hs hn ho hb
 obtain ⟨W, hW, a1, a2, a3, hBW⟩ := boxes3 w 59 [.string f.nm, .bool f.nl, .int .i64 f.k, .int .i64 f.wd, .int .i64 f.id, .int .i64 f.ix, .slice fp f.kids.length fc] 75 [.int .i64 d.len, .int .i64 d.off, .int .i64 d.nul, .slice bp d.bufs.length bc, .slice kp d.kids.length kc, .slice dp d.dict.length dc] 64 [.int .i64 0, .slice none 0 0, .int .i64 0]
 have A1 := zh a1
 have A2 := zh a2
 have A3 := zh a3
 have HBW := zh hBW
 have HW := zh hW
 clear a1 a2 a3 hBW hW
 go_enter Tryz.func97, Tryz.ntmps97
 go_wp2_with fail
 rw [← HW.o]
 clear HW
 refine (count_calls (HF.o.below HBW.o) (HD.o.below HBW.o) HS.o HN.o.1 HN.o.2.1 HN.o.2.2).mono ?_
 rintro e W2 ⟨rfl, hb2⟩
 have HB2 := zh (HBW.o.trans (hb2.mono HBW.o.size))
 have B1 := A1.o.below hb2 A1.o.lt
 have B2 := A2.o.below hb2 A2.o.lt
 have BB3 := zh (A3.o.below hb2 A3.o.lt)
 have p1 := B1.row 1 _ rfl
 have r2 := B2.row 2 _ rfl
 have q0 := BB3.o.row 0 _ rfl
 have q1 := BB3.o.row 1 _ rfl
 have q2 := BB3.o.row 2 _ rfl
 have z0 := BB3.o.frozen 0
 have z1 := BB3.o.frozen 1
 have z2 := BB3.o.frozen 2
 have hl1 := B1.lt
 have hl2 := B2.lt
 have hl3 := BB3.o.lt
 clear B1 B2 hb2
 obtain ⟨c, hc⟩ : ∃ c, c = countF f.k d.bufs o n := ⟨_, rfl⟩
 have HNE := zh (show nullsE f d n o = if d.nul ≠ (c : Int) ∨ (0 < c ∧ f.nl = false) then 81 else 0 by rw [hc]; rfl)
 rw [← hc]
 clear hc
 cases e1 : (d.nul != (c : Int)) with
 | true =>
  have HE := zh (show nullsE f d n o = 81 by rw [HNE.o, if_pos (.inl (by simpa using e1))])
  go_wp2_with fail
  refine (fault_calls 81 1 W2).mono ?_
  rintro e W3 ⟨dd, path, at', rfl, hw3, hb3⟩
  have BB4 := zh (BB3.o.below hb3 BB3.o.lt)
  have HB3 := zh (HB2.o.trans (hb3.mono HB2.o.size))
  have HWV := zh hw3
  obtain ⟨pq, pc, rfl, -⟩ := hw3
  clear p1 r2 q0 q1 q2 z0 z1 z2 hl1 hl2 hl3 hb3
  have q0 := BB4.o.row 0 _ rfl
  have q1 := BB4.o.row 1 _ rfl
  have q2 := BB4.o.row 2 _ rfl
  have z0 := BB4.o.frozen 0
  have z1 := BB4.o.frozen 1
  have z2 := BB4.o.frozen 2
  have hl3 := BB4.o.lt
  go_wp2_with fail
  rw [HE.o]
  exact faultN_back (i := 4) rfl (put3_box rfl BB4.o _ _ _) HWV.o (put3_below HB3.o (by omega) _ _ _) rfl
 | false =>
  have e1' : d.nul = (c : Int) := by simpa using e1
  cases e2 : decide ((0 : Int) < (c : Int)) with
  | false =>
   have e2' : ¬ 0 < c := by have := of_decide_eq_false e2; omega
   have e2n : decide (0 < c) = false := decide_eq_false e2'
   have HE := zh (show nullsE f d n o = 0 by rw [HNE.o, if_neg (by omega)])
   clear e1' e2'
   go_wp2_with fail
   rw [HE.o]
   exact faultN_back (i := 4) rfl (put3_box rfl BB3.o _ _ _) wayN_nil (put3_below HB2.o (by omega) _ _ _) rfl
  | true =>
   have e2' : 0 < c := by have := of_decide_eq_true e2; omega
   have e2n : decide (0 < c) = true := decide_eq_true e2'
   cases hnl : f.nl with
   | true =>
    have HE := zh (show nullsE f d n o = 0 by rw [HNE.o, if_neg (by simp [e1', hnl])])
    rw [hnl] at p1
    clear e1' e2' hnl
    go_wp2_with fail
    rw [HE.o]
    exact faultN_back (i := 4) rfl (put3_box rfl BB3.o _ _ _) wayN_nil (put3_below HB2.o (by omega) _ _ _) rfl
   | false =>
    have HE := zh (show nullsE f d n o = 81 by rw [HNE.o, if_pos (.inr ⟨e2', hnl⟩)])
    rw [hnl] at p1
    clear e1' e2' hnl
    go_wp2_with fail
    refine (fault_calls 81 1 W2).mono ?_
    rintro e W3 ⟨dd, path, at', rfl, hw3, hb3⟩
    have BB4 := zh (BB3.o.below hb3 BB3.o.lt)
    have HB3 := zh (HB2.o.trans (hb3.mono HB2.o.size))
    have HWV := zh hw3
    obtain ⟨pq, pc, rfl, -⟩ := hw3
    clear p1 r2 q0 q1 q2 z0 z1 z2 hl1 hl2 hl3 hb3
    have q0 := BB4.o.row 0 _ rfl
    have q1 := BB4.o.row 1 _ rfl
    have q2 := BB4.o.row 2 _ rfl
    have z0 := BB4.o.frozen 0
    have z1 := BB4.o.frozen 1
    have z2 := BB4.o.frozen 2
    have hl3 := BB4.o.lt
    go_wp2_with fail
    rw [HE.o]
    exact faultN_back (i := 4) rfl (put3_box rfl BB4.o _ _ _) HWV.o (put3_below HB3.o (by omega) _ _ _) rfl
theorem clip_calls (q : Option Addr) (n c : Nat) (w : World) (h : n ≤ c) (hc : c ≤ 2 ^ 63 - 1) : Calls Tryz.prog 123 #[.slice q n c] w (StillPost w (.slice q n n)) := by
 go_enter Tryz.func123, Tryz.ntmps123
 go_wp2_with fail
 go_ret
 exact still_post rfl rfl
set_option maxHeartbeats 2000000 in
theorem kcopied_step {w : World} {L : List Fd} {v : Value} (h : FdsAt w L v) (hsm : L.length ≤ 1000000000000)
  (ih : ∀ g ∈ L, ∀ (w : World) (v : Value), FdsAt w g.kids v → Calls Tryz.prog 119 #[v] w (ListPost w g.kids)) :
  Calls Tryz.prog 119 #[v] w (ListPost w L) := by
 obtain ⟨i1, z1, hi1, hz1, hzc1, hsz1, hby1⟩ := info28_parts
 obtain ⟨p, cap, rfl, hl, hm, hC⟩ := h
 unfold maxLen at hm
 have HC := zh hC
 have HI := zh ih
 clear ih hC
 go_enter Tryz.func119, Tryz.ntmps119
 go_wp2_with fail
 go_loopw [3, 8] (fun l i wr => ∃ (k : Nat) (q : Option Addr) (c : Nat) (css : List (List Value)), k ≤ L.length ∧ l = .slice q k c ∧ i = .int .i64 k ∧ Hid (RowF wr w.heap.size (.slice q k c) (L.take k) css) ∧ Hid (Below w.heap.size w wr)) (fun _ i _ => L.length - (intOf i).toNat)
 case atStart => exact ⟨0, none, 0, [], by omega, rfl, rfl, zh (RowF.nil _ _), zh (Below.refl _ _)⟩
 case round =>
  obtain ⟨k, q, c, css, hk, rfl, rfl, HR, HB⟩ := hrel
  have hsz := HB.o.size
  by_cases hlt : k < L.length
  ·obtain ⟨b', o', fq, cap', rfl, e3, c0, c1, c2, c3, c4, c5, c6⟩ := HC.o.seven k hlt
   have E3 := zh (e3.below HB.o)
   replace c0 := cell_below HB.o c0
   replace c1 := cell_below HB.o c1
   replace c2 := cell_below HB.o c2
   replace c3 := cell_below HB.o c3
   replace c4 := cell_below HB.o c4
   replace c5 := cell_below HB.o c5
   replace c6 := cell_below HB.o c6
   have HIG := zh (HI.o L[k] (List.getElem_mem hlt))
   have HTK := zh (List.take_succ_eq_append_getElem hlt)
   clear e3
   generalize hg : L[k] = g at *
   have HG := zh hg
   clear hg
   go_wp2_with fail
   obtain ⟨A, hA⟩ : ∃ A, A = wr.alloc (.cells #[Value.string g.nm, Value.bool g.nl, Value.int IntKind.i64 g.k, Value.int IntKind.i64 g.wd, Value.int IntKind.i64 g.id, Value.int IntKind.i64 g.ix, Value.slice fq g.kids.length cap'] 59) := ⟨_, rfl⟩
   have BA : Below wr.heap.size wr A := by rw [hA]; exact (Below.refl _ wr).alloc (Nat.le_refl _) _
   have a1 : BoxN A wr.heap.size 59 [.string g.nm, .bool g.nl, .int .i64 g.k, .int .i64 g.wd, .int .i64 g.id, .int .i64 g.ix, .slice fq g.kids.length cap'] := by rw [hA]; exact BoxN.new wr 59 _
   rw [← hA]
   clear hA
   obtain ⟨_, _, esh, hkd, hnm, ik, iw, ii, ix'⟩ := E3.o.shape
   cases esh
   refine (HIG.o A _ (hkd.below BA)).mono ?_
   rintro e W1 ⟨p1, cap1, rfl, ⟨hr1, hr2⟩, hfd, hb1⟩
   have B1 := zh (a1.below hb1 a1.lt)
   have hasz : wr.heap.size < A.heap.size := a1.lt
   have BA1 := zh (BA.trans (hb1.mono BA.size))
   have HFD := zh hfd
   have HNM := zh hnm
   have HII := zh (And.intro ik (And.intro iw (And.intro ii ix')))
   have HRR := zh (And.intro hr1 hr2)
   clear hkd a1 BA hb1 hfd hnm ik iw ii ix' hr1 hr2 c0 c1 c2 c3 c4 c5 c6
   have r0 := B1.o.row 0 _ rfl
   have r1 := B1.o.row 1 _ rfl
   have r2 := B1.o.row 2 _ rfl
   have r3 := B1.o.row 3 _ rfl
   have r4 := B1.o.row 4 _ rfl
   have r5 := B1.o.row 5 _ rfl
   have r6 := B1.o.row 6 _ rfl
   have x6 := B1.o.frozen 6
   have hlb := B1.o.lt
   have hb2' : Below wr.heap.size wr (W1.setCell ⟨wr.heap.size, 6, none⟩ (.slice p1 g.kids.length cap1)) := BA1.o.setCell (p := ⟨wr.heap.size, 6, none⟩) (Nat.le_refl _) _
   have hgS : FdS (fun b => A.heap.size ≤ b) (W1.setCell ⟨wr.heap.size, 6, none⟩ (.slice p1 g.kids.length cap1)) g [.string g.nm, .bool g.nl, .int .i64 g.k, .int .i64 g.wd, .int .i64 g.id, .int .i64 g.ix, .slice p1 g.kids.length cap1] := by
    have h1 : FdS (fun b => A.heap.size ≤ b) W1 g [.string g.nm, .bool g.nl, .int .i64 g.k, .int .i64 g.wd, .int .i64 g.id, .int .i64 g.ix, .slice p1 g.kids.length cap1] := by
     obtain ⟨q1, q2, q3, q4⟩ := HII.o
     cases g with
     | mk nm nl fk wd id ix kids => exact FdS.mk' HNM.o q1 q2 q3 q4 HRR.o.1 HRR.o.2 HFD.o
    exact h1.keep (fun b hs hlt => ⟨Below.heap_setCell _ _ _ b (by show b ≠ wr.heap.size; omega), hs⟩)
   have hsE : (W1.setCell ⟨wr.heap.size, 6, none⟩ (.slice p1 g.kids.length cap1)).heap.size = W1.heap.size := by simp
   have hR1 := HR.o.below hb2'
   have htk : (L.take k).length = k := by rw [List.length_take]; omega
   have hown1 : (W1.setCell ⟨wr.heap.size, 6, none⟩ (.slice p1 g.kids.length cap1)).ownsRow w.heap.size 59 7 (.slice q k c) k (css.flatMap id) := by have := hR1.own; rwa [htk] at this
   have hoff : ∀ j, (Value.slice q k c).ownBlock = some j → j < wr.heap.size := fun j e => (HR.o.own.lt j e).2
   have hfd1 : FdS (fun b => w.heap.size ≤ b ∧ (Value.slice q k c).ownBlock ≠ some b) (W1.setCell ⟨wr.heap.size, 6, none⟩ (.slice p1 g.kids.length cap1)) g _ := hgS.mono (fun b hb => ⟨by omega, fun e => by have := hoff b e; omega⟩)
   have HR1 := zh hR1
   have HO1 := zh hown1
   have HF1 := zh hfd1
   have HB2 := zh (HB.o.trans (hb2'.mono hsz))
   have HTL := zh htk
   have hZ := BoxN.new (W1.setCell ⟨wr.heap.size, 6, none⟩ (.slice p1 g.kids.length cap1)) 59 [Value.string g.nm, Value.bool g.nl, Value.int IntKind.i64 g.k, Value.int IntKind.i64 g.wd, Value.int IntKind.i64 g.id, Value.int IntKind.i64 g.ix, Value.slice p1 g.kids.length cap1]
   rw [hsE] at hZ
   have HZ := zh hZ
   have hs1 := HB2.o.size
   rw [hsE] at hs1
   have HSE := zh hsE
   clear hb2' hR1 hown1 hfd1 hoff hZ htk hgS hsE
   go_wp2_with (at_builtin; refine wpList_append_lies _ rfl _ _ 23 rfl w.heap.size 59 i1 z1 7 80 und23 hi1 hz1 hsz1 hby1 hzc1 (by decide) (.slice q k c) k (css.flatMap id) rfl (HO1.o.alloc _) ⟨W1.heap.size, 0, none⟩ 1 1 [Value.string g.nm, Value.bool g.nl, Value.int IntKind.i64 g.k, Value.int IntKind.i64 g.wd, Value.int IntKind.i64 g.id, Value.int IntKind.i64 g.ix, Value.slice p1 g.kids.length cap1] rfl rfl (World.news_of_block HZ.o) (by simp [Value.oneCell']) (by decide) (by unfold maxLen; omega) (by omega) (by simp; omega) (W1.heap.size + 1) (by simp) ?_; intro gg cc w2 hown2 hgrow2 hat2 hlt2)
   refine ⟨⟨k + 1, some ⟨gg, 0, none⟩, cc, css ++ [[Value.string g.nm, Value.bool g.nl, Value.int IntKind.i64 g.k, Value.int IntKind.i64 g.wd, Value.int IntKind.i64 g.id, Value.int IntKind.i64 g.ix, Value.slice p1 g.kids.length cap1]], by omega, rfl, by go_num, zh ?_, zh ((HB2.o.alloc HB2.o.size _).grown hgrow2 (by have := HB2.o.size; simp; omega) (fun j e => (HO1.o.lt j e).1))⟩, by simp [intOf]; omega⟩
   rw [HTK.o]
   exact (HR1.o.below ((Below.refl _ _).alloc (Nat.le_refl _) _)).push (HF1.o.below ((Below.refl _ _).alloc (Nat.le_refl _) _)) HTL.o hown2 hgrow2 (by rw [World.size_alloc, HSE.o]; exact hat2)
  ·have hkl : k = L.length := by omega
   have HKL := zh hkl
   have hR := HR.o
   rw [HKL.o, List.take_length] at hR
   have hlist := zh hR.list
   have hroom := hR.room
   subst hkl
   have hcz := hroom.1
   have hcm := hroom.2
   unfold maxLen at hcm
   clear hR
   go_wp2_with fail
   refine (clip_calls q L.length c wr hcz hcm).mono ?_
   rintro e W2 ⟨rfl, rfl⟩
   go_wp2_with fail
   go_ret
   exact ⟨q, L.length, rfl, ⟨Nat.le_refl _, by omega⟩, hlist.o, HB.o⟩
theorem kcopied_calls (f : Fd) : okF f → ∀ (w : World) (v : Value), FdsAt w f.kids v → Calls Tryz.prog 119 #[v] w (ListPost w f.kids) :=
 fd_ind (P := fun f => okF f → ∀ (w : World) (v : Value), FdsAt w f.kids v → Calls Tryz.prog 119 #[v] w (ListPost w f.kids)) (fun f ih ho w v hv => by
  obtain ⟨_, hk, hl⟩ := okF_kids ho
  exact kcopied_step hv (by omega) (fun g hg w v h => ih g hg (okL_mem hl g hg) w v h)) f
theorem kcopieds_calls {w : World} {L : List Fd} {v : Value} (h : FdsAt w L v) (ho : okL L) (hl : L.length ≤ 32) : Calls Tryz.prog 119 #[v] w (ListPost w L) :=
 kcopied_step h (by omega) (fun g hg w v h => kcopied_calls g (okL_mem ho g hg) w v h)
def aName : ByteArray := ⟨#[97]⟩
def holderF (f : Fd) : Fd := f.named aName (decide (f.k = 1) || ((decide (f.k = 20) && decide (0 < f.kids.length)) && firstNl f))
theorem firstNl_of {f : Fd} (h : 0 < f.kids.length) : firstNl f = (f.kids[0]).nl := by
 cases f with
 | mk nm nl k wd id ix kids =>
  cases kids with
  | nil => cases h
  | cons g t => rfl
theorem holder_calls {w : World} {f : Fd} {p : Option Addr} {c : Nat} (hf : FdAt w f [.string f.nm, .bool f.nl, .int .i64 f.k, .int .i64 f.wd, .int .i64 f.id, .int .i64 f.ix, .slice p f.kids.length c]) :
  Calls Tryz.prog 118 #[.agg #[.int .i64 f.k, .int .i64 f.wd, .int .i64 f.id, .int .i64 f.ix, .slice p f.kids.length c]] w (FdPost w (holderF f)) := by
 obtain ⟨_, _, e, hL, -⟩ := hf.shape
 cases e
 obtain ⟨_, _, e, hr1, hr2, hC⟩ := hL
 cases e
 have HF := zh hf
 have HC := zh hC
 unfold maxLen at hr2
 clear hf hC
 have HN : ∀ nl : Bool, Hid (FdAt w (f.named aName nl) [.string aName, .bool nl, .int .i64 f.k, .int .i64 f.wd, .int .i64 f.id, .int .i64 f.ix, .slice p f.kids.length c]) := fun nl => zh (HF.o.named (by decide) nl)
 have HSZ := zh (show (w.alloc (.cells #[.int .i64 f.k, .int .i64 f.wd, .int .i64 f.id, .int .i64 f.ix, .slice p f.kids.length c] 57)).heap.size = w.heap.size + 1 from World.size_alloc _ _)
 have HB : ∀ nl : Bool, Hid (Below w.heap.size w (((w.alloc (.cells #[.int .i64 f.k, .int .i64 f.wd, .int .i64 f.id, .int .i64 f.ix, .slice p f.kids.length c] 57)).alloc (.cells #[.string aName, .bool nl, .int .i64 f.k, .int .i64 f.wd, .int .i64 f.id, .int .i64 f.ix, .slice p f.kids.length c] 59)).alloc (.cells #[.string aName, .bool nl, .int .i64 f.k, .int .i64 f.wd, .int .i64 f.id, .int .i64 f.ix, .slice p f.kids.length c] 59))) := fun nl => zh (((((Below.refl _ w).alloc (Nat.le_refl _) _).alloc (by simp) _).alloc (by simp; omega) _))
 have HH := zh (show holderF f = f.named aName (decide (f.k = 1) || ((decide (f.k = 20) && decide (0 < f.kids.length)) && firstNl f)) from rfl)
 cases q1 : (f.k == 1) with
 | true =>
  have HE := zh (show holderF f = f.named aName true by rw [HH.o, show decide (f.k = 1) = true by simpa using q1]; rfl)
  go_enter Tryz.func118, Tryz.ntmps118
  go_wp2_with fail
  rw [HE.o]
  exact fd_back (i := 2) (g := f.named aName true) rfl ((BoxN.new' HSZ.o _ _).alloc _) ((HN true).o.below (HB true).o) (HB true).o rfl
 | false =>
  cases q2 : (f.k == 20) with
  | false =>
   have HE := zh (show holderF f = f.named aName false by rw [HH.o, show decide (f.k = 1) = false by simpa using q1, show decide (f.k = 20) = false by simpa using q2]; rfl)
   go_enter Tryz.func118, Tryz.ntmps118
   go_wp2_with fail
   rw [HE.o]
   exact fd_back (i := 2) (g := f.named aName false) rfl ((BoxN.new' HSZ.o _ _).alloc _) ((HN false).o.below (HB false).o) (HB false).o rfl
  | true =>
   cases hkd : decide (0 < f.kids.length) with
   | false =>
    have HE := zh (show holderF f = f.named aName false by rw [HH.o, show decide (f.k = 1) = false by simpa using q1, hkd, Bool.and_false]; rfl)
    go_enter Tryz.func118, Tryz.ntmps118
    go_wp2_with fail
    rw [HE.o]
    exact fd_back (i := 2) (g := f.named aName false) rfl ((BoxN.new' HSZ.o _ _).alloc _) ((HN false).o.below (HB false).o) (HB false).o rfl
   | true =>
    have h0 : 0 < f.kids.length := by simpa using hkd
    obtain ⟨b, o, p1, c1, rfl, g1, s0, s1, s2, s3, s4, s5, s6⟩ := HC.o.seven 0 h0
    simp only [Nat.zero_mul, Nat.add_zero] at s0 s1 s2 s3 s4 s5 s6
    have HE := zh (show holderF f = f.named aName (f.kids[0]).nl by
     rw [HH.o, show decide (f.k = 1) = false by simpa using q1, show decide (f.k = 20) = true by simpa using q2, hkd]
     rw [firstNl_of h0]; rfl)
    have hblk := World.block_lt_of_cell? w _ s0
    simp only at hblk
    have hblk1 : b < w.heap.size + 1 := by omega
    have hblk2 : b < w.heap.size + 1 + 1 := by omega
    have hblk3 : b < w.heap.size + 1 + 1 + 1 := by omega
    have h0z : (0 : Int) < (f.kids.length : Int) := by omega
    generalize (f.kids[0]).nl = nl at *
    clear s0 s2 s3 s4 s5 s6 g1
    go_enter Tryz.func118, Tryz.ntmps118
    go_wp2_with fail
    rw [HE.o]
    exact fd_back (i := 2) (g := f.named aName nl) rfl ((BoxN.new' HSZ.o _ _).alloc _) ((HN nl).o.below (HB nl).o) (HB nl).o rfl
theorem one_field {w : World} {f : Fd} {p : Option Addr} {c : Nat} (hf : FdAt w f [.string f.nm, .bool f.nl, .int .i64 f.k, .int .i64 f.wd, .int .i64 f.id, .int .i64 f.ix, .slice p f.kids.length c]) {b : Nat} (hb : BoxN w b 59 [.string f.nm, .bool f.nl, .int .i64 f.k, .int .i64 f.wd, .int .i64 f.id, .int .i64 f.ix, .slice p f.kids.length c]) :
  FdsAt w [f] (.slice (some ⟨b, 0, none⟩) 1 1) := by
 refine ⟨some ⟨b, 0, none⟩, 1, rfl, Nat.le_refl _, by decide, ?_⟩
 simp only [FdsC]
 exact ⟨⟨b, 0, _, rfl, fun j u hj => by have := hb.row j u hj; simpa using this, hf⟩, trivial⟩
set_option maxHeartbeats 2000000 in
theorem checkField_calls {w : World} {f : Fd} {fs : List Value} (hf : FdAt w f fs) (hS : SaysAt w) : Calls Tryz.prog 78 #[.agg fs.toArray] w (FaultPost w (fieldE f)) := by
 obtain ⟨p, c, rfl, -⟩ := hf.shape
 have HF := zh hf
 have HS := zh hS
 clear hf hS
 obtain ⟨W, hW, a1, a2, a3, hBW⟩ := boxes3 w 59 [.string f.nm, .bool f.nl, .int .i64 f.k, .int .i64 f.wd, .int .i64 f.id, .int .i64 f.ix, .slice p f.kids.length c] 64 [.int .i64 0, .slice none 0 0, .int .i64 0] 59 [.string f.nm, .bool f.nl, .int .i64 f.k, .int .i64 f.wd, .int .i64 f.id, .int .i64 f.ix, .slice p f.kids.length c]
 have A2 := zh a2
 have A3 := zh a3
 have HBW := zh hBW
 have HW := zh hW
 clear a1 a2 a3 hBW hW
 go_enter Tryz.func78, Tryz.ntmps78
 go_wp2_with fail
 rw [← HW.o]
 clear HW
 refine (check_calls (L := [f]) (NS := []) (one_field (HF.o.below HBW.o) A3.o) ⟨none, 0, rfl, Nat.le_refl _, Nat.zero_le _, fun i hi => absurd hi (Nat.not_lt_zero _)⟩ (HS.o.below HBW.o)).mono ?_
 rintro e W2 ⟨d, path, at', rfl, hw, hb2⟩
 rw [show schemaE [f] (sizesOf []) = fieldE f from rfl]
 obtain ⟨pq, pc, rfl, hd1, hd2, hd3⟩ := hw
 have BB := zh (A2.o.below hb2 A2.o.lt)
 have HB2 := zh (HBW.o.trans (hb2.mono HBW.o.size))
 have q0 := BB.o.row 0 _ rfl
 have q1 := BB.o.row 1 _ rfl
 have q2 := BB.o.row 2 _ rfl
 have z0 := BB.o.frozen 0
 have z1 := BB.o.frozen 1
 have z2 := BB.o.frozen 2
 have hl := BB.o.lt
 have hd3' := zh hd3
 unfold maxLen at hd2
 clear hb2 hd3
 cases hz : decide (0 < d) with
 | false =>
  have e0 : d = 0 := by have := of_decide_eq_false hz; omega
  go_wp2_with fail
  exact fault_back (i := 2) rfl ((put3_box rfl BB.o _ _ _).alloc _) ⟨pq, pc, rfl, Nat.zero_le _, by unfold maxLen; omega, fun _ => rfl⟩ ((put3_below HB2.o (by omega) _ _ _).alloc (put3_below HB2.o (by omega) _ _ _).size _) rfl
 | true =>
  have e0 : 0 < d := of_decide_eq_true hz
  cases pq with
  | none => exact absurd (hd3'.o rfl) (by omega)
  | some a =>
  go_wp2_with fail
  ·exact fault_back (i := 2) rfl ((put3_box rfl BB.o _ _ _).alloc _) ⟨_, _, rfl, by omega, by decide, fun h => by cases h⟩ ((put3_below HB2.o (by omega) _ _ _).alloc (put3_below HB2.o (by omega) _ _ _).size _) rfl
  ·exact fault_back (i := 2) rfl ((put3_box rfl BB.o _ _ _).alloc _) ⟨_, _, rfl, by omega, by unfold maxLen; omega, fun h => by cases h⟩ ((put3_below HB2.o (by omega) _ _ _).alloc (put3_below HB2.o (by omega) _ _ _).size _) rfl
def mayT (f : Fd) : Bool := fieldE (holderF f) == 0
def sayW (k : Int) : Int := if k = 3 ∨ k = 7 then 1 else if k = 4 ∨ k = 8 then 2 else if k = 5 ∨ k = 9 then 4 else if k = 6 ∨ k = 10 ∨ k = 11 then 8 else 0
theorem may_calls' {w : World} {f : Fd} {p : Option Addr} {c : Nat} (hf : FdAt w f [.string f.nm, .bool f.nl, .int .i64 f.k, .int .i64 f.wd, .int .i64 f.id, .int .i64 f.ix, .slice p f.kids.length c]) (hS : SaysAt w) :
  Calls Tryz.prog 107 #[.agg #[.int .i64 f.k, .int .i64 f.wd, .int .i64 f.id, .int .i64 f.ix, .slice p f.kids.length c]] w (BoolPost w (mayT f)) := by
 have HF := zh hf
 have HS := zh hS
 clear hf hS
 obtain ⟨W, hW, -, hBW⟩ := boxes1 w 57 [.int .i64 f.k, .int .i64 f.wd, .int .i64 f.id, .int .i64 f.ix, .slice p f.kids.length c]
 have HBW := zh hBW
 have HW := zh hW
 clear hBW hW
 go_enter Tryz.func107, Tryz.ntmps107
 go_wp2_with fail
 rw [← HW.o]
 clear HW
 refine (holder_calls (HF.o.below HBW.o)).mono ?_
 rintro e W2 ⟨q, d, rfl, hg, hb2⟩
 have HB2 := zh (HBW.o.trans (hb2.mono HBW.o.size))
 have HG := zh hg
 clear hb2 hg
 have HM := zh (show mayT f = (fieldE (holderF f) == 0) from rfl)
 obtain ⟨g, hg⟩ : ∃ g, g = holderF f := ⟨_, rfl⟩
 rw [← hg] at HG HM ⊢
 clear hg
 go_wp2_with fail
 refine (checkField_calls HG.o (HS.o.below HB2.o)).mono ?_
 rintro e W3 ⟨d3, path, at3, rfl, ⟨q3, c3, rfl, -, -, -⟩, hb3⟩
 have HB3 := zh (HB2.o.trans (hb3.mono HB2.o.size))
 clear hb3
 obtain ⟨fe, hfe⟩ : ∃ fe, fe = fieldE g := ⟨_, rfl⟩
 rw [← hfe] at HM ⊢
 clear hfe
 have hfd := field64 fe at3 q3 d3 c3 W3
 go_wp2_with fail
 rw [HM.o]
 go_ret
 exact bool_post rfl HB3.o
def PairAt (W : World) (x y b1 o1 n1 fc1 b2 o2 n2 fc2 bk ok m2 kc2 k a b : Nat) (f : Fd) (p1 : Option Addr) (c1 : Nat) (g : Fd) (p2 : Option Addr) (c2 : Nat) : Prop :=
 (W.cell? ⟨x, 0, none⟩ = some (.slice (some ⟨b1, o1, none⟩) n1 fc1) ∧ W.cell? ⟨y, 0, none⟩ = some (.slice (some ⟨b2, o2, none⟩) n2 fc2) ∧ W.cell? ⟨y, 2, none⟩ = some (.slice (some ⟨bk, ok, none⟩) m2 kc2) ∧ W.cell? ⟨bk, ok + k, none⟩ = some (.int .i64 b)) ∧ (W.cell? ⟨b1, o1 + a * 7, none⟩ = some (.string f.nm) ∧ W.cell? ⟨b1, o1 + a * 7 + 1, none⟩ = some (.bool f.nl) ∧ W.cell? ⟨b1, o1 + a * 7 + 2, none⟩ = some (.int .i64 f.k) ∧ W.cell? ⟨b1, o1 + a * 7 + 3, none⟩ = some (.int .i64 f.wd) ∧ W.cell? ⟨b1, o1 + a * 7 + 4, none⟩ = some (.int .i64 f.id) ∧ W.cell? ⟨b1, o1 + a * 7 + 5, none⟩ = some (.int .i64 f.ix) ∧ W.cell? ⟨b1, o1 + a * 7 + 6, none⟩ = some (.slice p1 f.kids.length c1)) ∧ (W.cell? ⟨b2, o2 + b * 7, none⟩ = some (.string g.nm) ∧ W.cell? ⟨b2, o2 + b * 7 + 1, none⟩ = some (.bool g.nl) ∧ W.cell? ⟨b2, o2 + b * 7 + 2, none⟩ = some (.int .i64 g.k) ∧ W.cell? ⟨b2, o2 + b * 7 + 3, none⟩ = some (.int .i64 g.wd) ∧ W.cell? ⟨b2, o2 + b * 7 + 4, none⟩ = some (.int .i64 g.id) ∧ W.cell? ⟨b2, o2 + b * 7 + 5, none⟩ = some (.int .i64 g.ix) ∧ W.cell? ⟨b2, o2 + b * 7 + 6, none⟩ = some (.slice p2 g.kids.length c2))
theorem PairAt.below {W U : World} {x y b1 o1 n1 fc1 b2 o2 n2 fc2 bk ok m2 kc2 k a b : Nat} {f : Fd} {p1 : Option Addr} {c1 : Nat} {g : Fd} {p2 : Option Addr} {c2 : Nat} (h : PairAt W x y b1 o1 n1 fc1 b2 o2 n2 fc2 bk ok m2 kc2 k a b f p1 c1 g p2 c2) (hb : Below W.heap.size W U) : PairAt U x y b1 o1 n1 fc1 b2 o2 n2 fc2 bk ok m2 kc2 k a b f p1 c1 g p2 c2 := by
 obtain ⟨⟨r0, r1, r2, r3⟩, ⟨s0, s1, s2, s3, s4, s5, s6⟩, ⟨t0, t1, t2, t3, t4, t5, t6⟩⟩ := h
 exact ⟨⟨cell_below hb r0, cell_below hb r1, cell_below hb r2, cell_below hb r3⟩, ⟨cell_below hb s0, cell_below hb s1, cell_below hb s2, cell_below hb s3, cell_below hb s4, cell_below hb s5, cell_below hb s6⟩, ⟨cell_below hb t0, cell_below hb t1, cell_below hb t2, cell_below hb t3, cell_below hb t4, cell_below hb t5, cell_below hb t6⟩⟩
set_option maxHeartbeats 16000000 in
theorem asked_calls {w : World} {sa sb : Nat} {L1 L2 : List Fd} {K1 K2 : List Int} {f1 k1 f2 k2 : Value} (kind : Int)
  (x0 : w.cell? ⟨sa, 0, none⟩ = some f1) (x2 : w.cell? ⟨sa, 2, none⟩ = some k1) (y0 : w.cell? ⟨sb, 0, none⟩ = some f2) (y2 : w.cell? ⟨sb, 2, none⟩ = some k2)
  (hL1 : FdsAt w L1 f1) (hK1 : IntsAt w K1 k1) (hL2 : FdsAt w L2 f2) (hK2 : IntsAt w K2 k2) (o1 : okL L1) (o2 : okL L2) :
  Calls Tryz.prog 18 #[.int .i64 kind, .pointer (some ⟨sa, 0, none⟩), .pointer (some ⟨sb, 0, none⟩)] w (IntPost w (askedE kind L1 K1 L2 K2)) := by
 have HK1 := zh hK1
 have HK2 := zh hK2
 obtain ⟨fp1, fc1, rfl, hl1, hm1, hC1⟩ := hL1
 obtain ⟨fp2, fc2, rfl, hl2, hm2, hC2⟩ := hL2
 obtain ⟨kp1, kc1, rfl, kl1, km1, hD1⟩ := hK1
 obtain ⟨kp2, kc2, rfl, kl2, km2, hD2⟩ := hK2
 unfold maxLen at hm1 hm2 km1 km2
 have X0 := zh x0
 have X2 := zh x2
 have Y0 := zh y0
 have Y2 := zh y2
 have HC1 := zh hC1
 have HC2 := zh hC2
 have HD1 := zh hD1
 have HD2 := zh hD2
 have HO1 := zh o1
 have HO2 := zh o2
 have hsa := World.block_lt_of_cell? w _ x0
 have hsb := World.block_lt_of_cell? w _ y0
 clear hC1 hC2 hD1 hD2 o1 o2
 by_cases hk1 : kind < 1
 ·have HE := zh (show askedE kind L1 K1 L2 K2 = 1 by unfold askedE; rw [if_pos (.inl hk1)])
  go_enter Tryz.func18, Tryz.ntmps18
  go_wp2_with fail
  go_ret
  exact int_post HE.o.symm (Below.refl _ _)
 by_cases hk5 : 5 < kind
 ·have HE := zh (show askedE kind L1 K1 L2 K2 = 1 by unfold askedE; rw [if_pos (.inr hk5)])
  go_enter Tryz.func18, Tryz.ntmps18
  go_wp2_with fail
  go_ret
  exact int_post HE.o.symm (Below.refl _ _)
 have HKD := zh (show askedE kind L1 K1 L2 K2 = if (K1.length ≠ K2.length ∨ K1.length = 0 ∨ 8 < K1.length) ∨ (keysB L1.length K1 = false ∨ keysB L2.length K2 = false) then 190 else if alikeB L1 K1 L2 K2 = true then 0 else 6 by unfold askedE; rw [if_neg (by omega)])
 by_cases hln : K1.length ≠ K2.length
 ·have HE := zh (show askedE kind L1 K1 L2 K2 = 190 by rw [HKD.o, if_pos (.inl (.inl hln))])
  have n1 : ((K1.length : Int) != (K2.length : Int)) = true := by simp; omega
  have n2 : ((K1.length : Int) == (K2.length : Int)) = false := by simp; omega
  go_enter Tryz.func18, Tryz.ntmps18
  go_wp2_with fail
  go_quiet (fail)
  go_wp2_with fail
  go_ret
  exact int_post HE.o.symm (below_drewN (Below.refl _ _) _)
 have n1 : ((K1.length : Int) != (K2.length : Int)) = false := by simp; omega
 have n2 : ((K1.length : Int) == (K2.length : Int)) = true := by simp; omega
 by_cases hl0 : K1.length = 0
 ·have HE := zh (show askedE kind L1 K1 L2 K2 = 190 by rw [HKD.o, if_pos (.inl (.inr (.inl hl0)))])
  have n3 : ((K1.length : Int) == 0) = true := by simp [hl0]
  clear hl0
  go_enter Tryz.func18, Tryz.ntmps18
  go_wp2_with fail
  go_quiet (fail)
  go_wp2_with fail
  go_ret
  exact int_post HE.o.symm (below_drewN (Below.refl _ _) _)
 have n3 : ((K1.length : Int) == 0) = false := beq_eq_false_iff_ne.2 (by omega)
 by_cases hl8 : 8 < K1.length
 ·have HE := zh (show askedE kind L1 K1 L2 K2 = 190 by rw [HKD.o, if_pos (.inl (.inr (.inr hl8)))])
  have n5 : decide ((8 : Int) < (K1.length : Int)) = true := decide_eq_true (by omega)
  go_enter Tryz.func18, Tryz.ntmps18
  go_wp2_with fail
  go_quiet (fail)
  go_wp2_with fail
  go_ret
  exact int_post HE.o.symm (below_drewN (Below.refl _ _) _)
 have n5 : decide ((8 : Int) < (K1.length : Int)) = false := decide_eq_false (by omega)
 have HKD2 := zh (show askedE kind L1 K1 L2 K2 = if (keysB L1.length K1 = false ∨ keysB L2.length K2 = false) then 190 else if alikeB L1 K1 L2 K2 = true then 0 else 6 by
  rw [HKD.o]
  by_cases h : keysB L1.length K1 = false ∨ keysB L2.length K2 = false
  ·rw [if_pos (.inr h), if_pos h]
  ·rw [if_neg (by rintro (g | g) <;> first | omega | exact h g), if_neg h])
 have KY1 := zh (keysB_iff (n := L1.length) (ks := K1))
 have KY2 := zh (keysB_iff (n := L2.length) (ks := K2))
 have GOOD := zh (alikeB_good (L1 := L1) (L2 := L2) (K1 := K1) (K2 := K2) (by omega))
 have HLE := zh (show K1.length = K2.length by omega)
 clear HKD hln
 cases kb1 : keysB L1.length K1 with
 | false =>
  have KB1 := zh kb1
  have HE := zh (show askedE kind L1 K1 L2 K2 = 190 by rw [HKD2.o, if_pos (.inl kb1)])
  clear HKD2 KY1 KY2 GOOD kb1
  go_enter Tryz.func18, Tryz.ntmps18
  go_wp2_with fail
  have N1 := zh (show ∀ n : Nat, Calls Tryz.prog 30 #[.pointer (some ⟨sa, 0, none⟩)] (w.drewN n) (fun e w' => e = .returned (.bool false) ∧ w' = w.drewN n) from fun n => by
   have h := names_calls (w := w.drewN n) (by omega) X0.o X2.o (HK1.o.below (below_drewN (Below.refl _ w) n))
   rw [KB1.o] at h
   exact h)
  go_quiet (first | (with_reducible exact Calls.quiet_of_same (N1.o _)))
  go_wp2_with fail
  go_ret
  exact int_post HE.o.symm (below_drewN (Below.refl _ _) _)
 | true =>
 have KB1 := zh kb1
 cases kb2 : keysB L2.length K2 with
 | false =>
  have KB2 := zh kb2
  have HE := zh (show askedE kind L1 K1 L2 K2 = 190 by rw [HKD2.o, if_pos (.inr kb2)])
  clear HKD2 KY1 KY2 GOOD kb1 kb2
  go_enter Tryz.func18, Tryz.ntmps18
  go_wp2_with fail
  have N1 := zh (show ∀ n : Nat, Calls Tryz.prog 30 #[.pointer (some ⟨sa, 0, none⟩)] (w.drewN n) (fun e w' => e = .returned (.bool true) ∧ w' = w.drewN n) from fun n => by
   have h := names_calls (w := w.drewN n) (by omega) X0.o X2.o (HK1.o.below (below_drewN (Below.refl _ w) n))
   rw [KB1.o] at h
   exact h)
  have N2 := zh (show ∀ n : Nat, Calls Tryz.prog 30 #[.pointer (some ⟨sb, 0, none⟩)] (w.drewN n) (fun e w' => e = .returned (.bool false) ∧ w' = w.drewN n) from fun n => by
   have h := names_calls (w := w.drewN n) (by omega) Y0.o Y2.o (HK2.o.below (below_drewN (Below.refl _ w) n))
   rw [KB2.o] at h
   exact h)
  go_quiet (first | (with_reducible exact Calls.quiet_of_same (N1.o _)) | (with_reducible exact Calls.quiet_of_same (N2.o _)))
  go_wp2_with fail
  go_ret
  exact int_post HE.o.symm (below_drewN (Below.refl _ _) _)
 | true =>
 have KB2 := zh kb2
 have HE := zh (show askedE kind L1 K1 L2 K2 = if alikeB L1 K1 L2 K2 = true then 0 else 6 by rw [HKD2.o, if_neg (by simp [kb1, kb2])])
 have KO1 := zh (KY1.o.1 kb1)
 have KO2 := zh (KY2.o.1 kb2)
 clear HKD2 KY1 KY2 kb1 kb2
 go_enter Tryz.func18, Tryz.ntmps18
 go_wp2_with fail
 have N1 := zh (show ∀ n : Nat, Calls Tryz.prog 30 #[.pointer (some ⟨sa, 0, none⟩)] (w.drewN n) (fun e w' => e = .returned (.bool true) ∧ w' = w.drewN n) from fun n => by
  have h := names_calls (w := w.drewN n) (by omega) X0.o X2.o (HK1.o.below (below_drewN (Below.refl _ w) n))
  rw [KB1.o] at h
  exact h)
 have N2 := zh (show ∀ n : Nat, Calls Tryz.prog 30 #[.pointer (some ⟨sb, 0, none⟩)] (w.drewN n) (fun e w' => e = .returned (.bool true) ∧ w' = w.drewN n) from fun n => by
  have h := names_calls (w := w.drewN n) (by omega) Y0.o Y2.o (HK2.o.below (below_drewN (Below.refl _ w) n))
  rw [KB2.o] at h
  exact h)
 go_quiet (first | (with_reducible exact Calls.quiet_of_same (N1.o _)) | (with_reducible exact Calls.quiet_of_same (N2.o _)))
 go_wp2_with fail
 clear n1 n2 n3 n5 x0 x2 y0 y2
 go_loopw [59] (fun i wr => ∃ k : Nat, k ≤ K1.length ∧ i = .int .i64 k ∧ Hid (Below w.heap.size w wr) ∧ Hid (∀ (j a b : Nat) (h1 : j < K1.length) (h2 : j < K2.length) (ha : a < L1.length) (hb : b < L2.length), K1[j] = a → K2[j] = b → j < k → eqT (bareF L1[a]) (bareF L2[b]) = true)) (fun i _ => K1.length - (intOf i).toNat)
 case atStart => exact ⟨0, by omega, rfl, zh (below_drewN (Below.refl _ _) _), zh (fun j a b _ _ _ _ _ _ h => absurd h (Nat.not_lt_zero _))⟩
 case round =>
  obtain ⟨k, hk, rfl, HB, HA⟩ := hrel
  by_cases hlt : k < K1.length
  ·have hlt2 : k < K2.length := by have := HLE.o; omega
   obtain ⟨hxa, ba, oa, rfl, z0⟩ := HD1.o k hlt
   obtain ⟨hxb, bk, ok, rfl, z1⟩ := HD2.o k hlt2
   obtain ⟨⟨ka0, ka1⟩, _⟩ := KO1.o k hlt
   obtain ⟨⟨kb0, kb1⟩, _⟩ := KO2.o k hlt2
   obtain ⟨a, ea⟩ : ∃ a : Nat, K1[k] = a := ⟨K1[k].toNat, by omega⟩
   obtain ⟨b, eb⟩ : ∃ b : Nat, K2[k] = b := ⟨K2[k].toNat, by omega⟩
   have la : a < L1.length := by omega
   have lb : b < L2.length := by omega
   have Bad := zh (fun h => alikeB_bad hlt hlt2 ea eb la lb h)
   have Next := zh (show eqT (bareF L1[a]) (bareF L2[b]) = true → ∀ (j a b : Nat) (h1 : j < K1.length) (h2 : j < K2.length) (ha : a < L1.length) (hb : b < L2.length), K1[j] = a → K2[j] = b → j < k + 1 → eqT (bareF L1[a]) (bareF L2[b]) = true from fun ht j a' b' h1 h2 ha hb e1 e2 hjk => by
    by_cases e : j = k
    ·subst e
     obtain rfl : a = a' := by omega
     obtain rfl : b = b' := by omega
     exact ht
    ·exact HA.o j a' b' h1 h2 ha hb e1 e2 (by omega))
   rw [ea] at z0 hxa
   rw [eb] at z1 hxb
   clear ka0 ka1 kb0 kb1 ea eb
   obtain ⟨b1, o1, p1, c1, rfl, g1, s0, s1, s2, s3, s4, s5, s6⟩ := HC1.o.seven a la
   obtain ⟨b2, o2, p2, c2, rfl, g2, t0, t1, t2, t3, t4, t5, t6⟩ := HC2.o.seven b lb
   have OK1 := zh (okL_mem HO1.o _ (List.getElem_mem la))
   have OK2 := zh (okL_mem HO2.o _ (List.getElem_mem lb))
   have F1 := zh (g1.below HB.o)
   have F2 := zh (g2.below HB.o)
   generalize L1[a] = f at *
   generalize L2[b] = g at *
   have x0 := cell_below HB.o X0.o
   have y0 := cell_below HB.o Y0.o
   have y2 := cell_below HB.o Y2.o
   have z0 := cell_below HB.o z0
   have z1 := cell_below HB.o z1
   have hs : PairAt wr.drew sa sb b1 o1 L1.length fc1 b2 o2 L2.length fc2 bk ok K2.length kc2 k a b f p1 c1 g p2 c2 :=
    ⟨⟨x0, y0, y2, z1⟩, ⟨cell_below HB.o s0, cell_below HB.o s1, cell_below HB.o s2, cell_below HB.o s3, cell_below HB.o s4, cell_below HB.o s5, cell_below HB.o s6⟩, ⟨cell_below HB.o t0, cell_below HB.o t1, cell_below HB.o t2, cell_below HB.o t3, cell_below HB.o t4, cell_below HB.o t5, cell_below HB.o t6⟩⟩
   have HS0 := zh hs
   clear s0 s1 s2 s3 s4 s5 s6 t0 t1 t2 t3 t4 t5 t6 g1 g2 hs x0 y0 y2 z1
   go_wp2_with fail
   clear z0
   refine Late.region (fun w' => PairAt w' sa sb b1 o1 L1.length fc1 b2 o2 L2.length fc2 bk ok K2.length kc2 k a b f p1 c1 g p2 c2) (fun _ => false) (by kernel_rfl) ?_
   refine Late.tk (i := 0) (v := ?_) rfl (by kernel_rfl) ⟨by rfl, ?_⟩ HS0.o ?_
   rotate_left
   ·intro w' hS
    obtain ⟨⟨r0, r1, r2, r3⟩, ⟨s0, s1, s2, s3, s4, s5, s6⟩, ⟨t0, t1, t2, t3, t4, t5, t6⟩⟩ := hS
    go_simp
    rfl
   refine Late.tk (i := 1) (v := ?_) rfl (by kernel_rfl) ⟨by rfl, ?_⟩ HS0.o ?_
   rotate_left
   ·intro w' hS
    obtain ⟨⟨r0, r1, r2, r3⟩, ⟨s0, s1, s2, s3, s4, s5, s6⟩, ⟨t0, t1, t2, t3, t4, t5, t6⟩⟩ := hS
    go_simp
    rfl
   refine Late.tk (i := 2) (v := ?_) rfl (by kernel_rfl) ⟨by rfl, ?_⟩ HS0.o ?_
   rotate_left
   ·intro w' hS
    obtain ⟨⟨r0, r1, r2, r3⟩, ⟨s0, s1, s2, s3, s4, s5, s6⟩, ⟨t0, t1, t2, t3, t4, t5, t6⟩⟩ := hS
    go_simp
    rfl
   refine Late.tk (i := 3) (v := ?_) rfl (by kernel_rfl) ⟨by rfl, ?_⟩ HS0.o ?_
   rotate_left
   ·intro w' hS
    obtain ⟨⟨r0, r1, r2, r3⟩, ⟨s0, s1, s2, s3, s4, s5, s6⟩, ⟨t0, t1, t2, t3, t4, t5, t6⟩⟩ := hS
    go_simp
    rfl
   refine Late.tk (i := 4) (v := ?_) rfl (by kernel_rfl) ⟨by rfl, ?_⟩ HS0.o ?_
   rotate_left
   ·intro w' hS
    obtain ⟨⟨r0, r1, r2, r3⟩, ⟨s0, s1, s2, s3, s4, s5, s6⟩, ⟨t0, t1, t2, t3, t4, t5, t6⟩⟩ := hS
    go_simp
    rfl
   refine Late.tk (i := 5) (v := ?_) rfl (by kernel_rfl) ⟨by rfl, ?_⟩ HS0.o ?_
   rotate_left
   ·intro w' hS
    obtain ⟨⟨r0, r1, r2, r3⟩, ⟨s0, s1, s2, s3, s4, s5, s6⟩, ⟨t0, t1, t2, t3, t4, t5, t6⟩⟩ := hS
    go_simp
    rfl
   refine Late.tk (i := 6) (v := ?_) rfl (by kernel_rfl) ⟨by rfl, ?_⟩ HS0.o ?_
   rotate_left
   ·intro w' hS
    obtain ⟨⟨r0, r1, r2, r3⟩, ⟨s0, s1, s2, s3, s4, s5, s6⟩, ⟨t0, t1, t2, t3, t4, t5, t6⟩⟩ := hS
    go_simp
    rfl
   refine Late.tk (i := 7) (v := ?_) rfl (by kernel_rfl) ⟨by rfl, ?_⟩ HS0.o ?_
   rotate_left
   ·intro w' hS
    obtain ⟨⟨r0, r1, r2, r3⟩, ⟨s0, s1, s2, s3, s4, s5, s6⟩, ⟨t0, t1, t2, t3, t4, t5, t6⟩⟩ := hS
    go_simp
    rfl
   refine Late.tk (i := 10) (v := ?_) rfl (by kernel_rfl) ⟨by rfl, ?_⟩ HS0.o ?_
   rotate_left
   ·intro w' hS
    obtain ⟨⟨r0, r1, r2, r3⟩, ⟨s0, s1, s2, s3, s4, s5, s6⟩, ⟨t0, t1, t2, t3, t4, t5, t6⟩⟩ := hS
    go_simp
    rfl
   refine Late.tk (i := 11) (v := ?_) rfl (by kernel_rfl) ⟨by rfl, ?_⟩ HS0.o ?_
   rotate_left
   ·intro w' hS
    obtain ⟨⟨r0, r1, r2, r3⟩, ⟨s0, s1, s2, s3, s4, s5, s6⟩, ⟨t0, t1, t2, t3, t4, t5, t6⟩⟩ := hS
    go_simp
    rfl
   refine Late.tk (i := 12) (v := ?_) rfl (by kernel_rfl) ⟨by rfl, ?_⟩ HS0.o ?_
   rotate_left
   ·intro w' hS
    obtain ⟨⟨r0, r1, r2, r3⟩, ⟨s0, s1, s2, s3, s4, s5, s6⟩, ⟨t0, t1, t2, t3, t4, t5, t6⟩⟩ := hS
    go_simp
    rfl
   refine Late.tk (i := 13) (v := ?_) rfl (by kernel_rfl) ⟨by rfl, ?_⟩ HS0.o ?_
   rotate_left
   ·intro w' hS
    obtain ⟨⟨r0, r1, r2, r3⟩, ⟨s0, s1, s2, s3, s4, s5, s6⟩, ⟨t0, t1, t2, t3, t4, t5, t6⟩⟩ := hS
    go_simp
    rfl
   refine Late.tk (i := 14) (v := ?_) rfl (by kernel_rfl) ⟨by rfl, ?_⟩ HS0.o ?_
   rotate_left
   ·intro w' hS
    obtain ⟨⟨r0, r1, r2, r3⟩, ⟨s0, s1, s2, s3, s4, s5, s6⟩, ⟨t0, t1, t2, t3, t4, t5, t6⟩⟩ := hS
    go_simp
    rfl
   refine Late.tk (i := 15) (v := ?_) rfl (by kernel_rfl) ⟨by rfl, ?_⟩ HS0.o ?_
   rotate_left
   ·intro w' hS
    obtain ⟨⟨r0, r1, r2, r3⟩, ⟨s0, s1, s2, s3, s4, s5, s6⟩, ⟨t0, t1, t2, t3, t4, t5, t6⟩⟩ := hS
    go_simp
    rfl
   refine Late.tk (i := 16) (v := ?_) rfl (by kernel_rfl) ⟨by rfl, ?_⟩ HS0.o ?_
   rotate_left
   ·intro w' hS
    obtain ⟨⟨r0, r1, r2, r3⟩, ⟨s0, s1, s2, s3, s4, s5, s6⟩, ⟨t0, t1, t2, t3, t4, t5, t6⟩⟩ := hS
    go_simp
    rfl
   refine Late.tk (i := 17) (v := ?_) rfl (by kernel_rfl) ⟨by rfl, ?_⟩ HS0.o ?_
   rotate_left
   ·intro w' hS
    obtain ⟨⟨r0, r1, r2, r3⟩, ⟨s0, s1, s2, s3, s4, s5, s6⟩, ⟨t0, t1, t2, t3, t4, t5, t6⟩⟩ := hS
    go_simp
    rfl
   refine Late.tk (i := 18) (v := ?_) rfl (by kernel_rfl) ⟨by rfl, ?_⟩ HS0.o ?_
   rotate_left
   ·intro w' hS
    obtain ⟨⟨r0, r1, r2, r3⟩, ⟨s0, s1, s2, s3, s4, s5, s6⟩, ⟨t0, t1, t2, t3, t4, t5, t6⟩⟩ := hS
    go_simp
    rfl
   refine Late.tk (i := 19) (v := ?_) rfl (by kernel_rfl) ⟨by rfl, ?_⟩ HS0.o ?_
   rotate_left
   ·intro w' hS
    obtain ⟨⟨r0, r1, r2, r3⟩, ⟨s0, s1, s2, s3, s4, s5, s6⟩, ⟨t0, t1, t2, t3, t4, t5, t6⟩⟩ := hS
    go_simp
    rfl
   refine Late.tk (i := 20) (v := ?_) rfl (by kernel_rfl) ⟨by rfl, ?_⟩ HS0.o ?_
   rotate_left
   ·intro w' hS
    obtain ⟨⟨r0, r1, r2, r3⟩, ⟨s0, s1, s2, s3, s4, s5, s6⟩, ⟨t0, t1, t2, t3, t4, t5, t6⟩⟩ := hS
    go_simp
    rfl
   refine Late.tk (i := 21) (v := ?_) rfl (by kernel_rfl) ⟨by rfl, ?_⟩ HS0.o ?_
   rotate_left
   ·intro w' hS
    obtain ⟨⟨r0, r1, r2, r3⟩, ⟨s0, s1, s2, s3, s4, s5, s6⟩, ⟨t0, t1, t2, t3, t4, t5, t6⟩⟩ := hS
    go_simp
    rfl
   refine Late.tk (i := 22) (v := ?_) rfl (by kernel_rfl) ⟨by rfl, ?_⟩ HS0.o ?_
   rotate_left
   ·intro w' hS
    obtain ⟨⟨r0, r1, r2, r3⟩, ⟨s0, s1, s2, s3, s4, s5, s6⟩, ⟨t0, t1, t2, t3, t4, t5, t6⟩⟩ := hS
    go_simp
    rfl
   refine Late.tk (i := 23) (v := ?_) rfl (by kernel_rfl) ⟨by rfl, ?_⟩ HS0.o ?_
   rotate_left
   ·intro w' hS
    obtain ⟨⟨r0, r1, r2, r3⟩, ⟨s0, s1, s2, s3, s4, s5, s6⟩, ⟨t0, t1, t2, t3, t4, t5, t6⟩⟩ := hS
    go_simp
    rfl
   refine Late.one (i := 8) (by kernel_rfl) rfl (fun K hK => ?_)
   go_simp
   refine (bare_calls f OK1.o wr.drew p1 c1 (F1.o.below (w' := wr.drew) (below_drew (Below.refl _ wr)))).mono ?_
   rintro e W2 ⟨u1, v1, rfl, hg1, hb2⟩
   have HS2 := zh (HS0.o.below hb2)
   have HB2 := zh ((below_drew HB.o).trans (hb2.mono HB.o.size))
   have G1 := zh hg1.at
   have F2 := zh ((F2.o.below (w' := wr.drew) (below_drew (Below.refl _ wr))).below hb2)
   clear hg1 hb2
   refine hK _ _ (fun _ => HS2.o) ?_
   clear hK K
   have hfd := fun w' => field59_2 (.string (bareF f).nm) (.bool (bareF f).nl) (.int .i64 (bareF f).k) (.int .i64 (bareF f).wd) (.int .i64 (bareF f).id) (.int .i64 (bareF f).ix) (.slice u1 (bareF f).kids.length v1) w'
   refine Late.tk (i := 9) (v := ?_) rfl (by kernel_rfl) ⟨by rfl, ?_⟩ HS2.o ?_
   rotate_left
   ·intro w' hS
    obtain ⟨⟨r0, r1, r2, r3⟩, ⟨s0, s1, s2, s3, s4, s5, s6⟩, ⟨t0, t1, t2, t3, t4, t5, t6⟩⟩ := hS
    go_simp
    rfl
   refine Late.one (i := 24) (by kernel_rfl) rfl (fun K hK => ?_)
   go_simp
   refine (bare_calls g OK2.o W2 p2 c2 F2.o).mono ?_
   rintro e W3 ⟨u2, v2, rfl, hg2, hb3⟩
   have HS3 := zh (HS2.o.below hb3)
   have HB3 := zh (HB2.o.trans (hb3.mono HB2.o.size))
   have G2 := zh hg2.at
   have G1 := zh (G1.o.below hb3)
   clear hg2 hb3
   refine hK _ _ (fun _ => HS3.o) ?_
   clear hK K
   have hfe := fun w' => field59_2 (.string (bareF g).nm) (.bool (bareF g).nl) (.int .i64 (bareF g).k) (.int .i64 (bareF g).wd) (.int .i64 (bareF g).id) (.int .i64 (bareF g).ix) (.slice u2 (bareF g).kids.length v2) w'
   refine Late.tk (i := 25) (v := ?_) rfl (by kernel_rfl) ⟨by rfl, ?_⟩ HS3.o ?_
   rotate_left
   ·intro w' hS
    obtain ⟨⟨r0, r1, r2, r3⟩, ⟨s0, s1, s2, s3, s4, s5, s6⟩, ⟨t0, t1, t2, t3, t4, t5, t6⟩⟩ := hS
    go_simp
    rfl
   refine Late.one (i := 26) (by kernel_rfl) rfl (fun K hK => ?_)
   go_simp
   refine (alike_calls (bareF f) (bareF g) W3 u1 u2 v1 v2 G1.o G2.o).mono ?_
   rintro e W4 ⟨rfl, hb4⟩
   have HS4 := zh (HS3.o.below hb4)
   have HB4 := zh (HB3.o.trans (hb4.mono HB3.o.size))
   clear hb4 G1 G2 F1 F2 hfd hfe
   refine hK _ _ (fun _ => HS4.o) ?_
   clear hK K
   generalize eqT (bareF f) (bareF g) = t at *
   cases t with
   | true =>
    have HN := zh (Next.o rfl)
    clear Next Bad
    refine Late.tk (i := 27) (v := ?_) rfl (by kernel_rfl) ⟨by rfl, ?_⟩ HS4.o ?_
    rotate_left
    ·intro w' hS
     obtain ⟨⟨r0, r1, r2, r3⟩, ⟨s0, s1, s2, s3, s4, s5, s6⟩, ⟨t0, t1, t2, t3, t4, t5, t6⟩⟩ := hS
     go_simp
     rfl
    refine Late.done (by kernel_rfl) ?_ _
    go_wp2_with fail
    go_round
    case rel => exact ⟨k + 1, by omega, by go_num, HB4, HN⟩
    case measure => simp [intOf]; omega
   | false =>
    have HN := zh (show askedE kind L1 K1 L2 K2 = 6 by rw [HE.o, Bad.o rfl]; rfl)
    clear Next Bad
    refine Late.tk (i := 27) (v := ?_) rfl (by kernel_rfl) ⟨by rfl, ?_⟩ HS4.o ?_
    rotate_left
    ·intro w' hS
     obtain ⟨⟨r0, r1, r2, r3⟩, ⟨s0, s1, s2, s3, s4, s5, s6⟩, ⟨t0, t1, t2, t3, t4, t5, t6⟩⟩ := hS
     go_simp
     rfl
    refine Late.done (by kernel_rfl) ?_ _
    go_wp2_with fail
    go_ret
    exact int_post HN.o.symm HB4.o
  ·have HN := zh (show askedE kind L1 K1 L2 K2 = 0 by rw [HE.o, GOOD.o (fun j a b h1 h2 ha hb e1 e2 => HA.o j a b h1 h2 ha hb e1 e2 (by omega)) KB1.o KB2.o]; rfl)
   go_wp2_with fail
   go_ret
   exact int_post HN.o.symm HB.o
namespace M
def one' : M → Bool
 | .one v => v.oneCell'
 | .many _ _ => true
theorem AtL.cells1 {S : Nat → Prop} {w : World} : ∀ {r : List M} {vs : List Value}, (∀ m ∈ r, m.one' = true) → AtL S w r vs → ∀ u ∈ vs, u.oneCell' = true
 | [], vs, _, h, u, hu => by rw [AtL.end h] at hu; cases hu
 | m :: r, vs, ho, h, u, hu => by
  simp only [AtL] at h
  obtain ⟨v, us, rfl, h1, h2⟩ := h
  rcases List.mem_cons.1 hu with e | e
  ·subst e
   cases m with
   | one x => simp only [At] at h1; subst h1; exact ho _ (List.mem_cons_self ..)
   | many sz rows => simp only [At] at h1; obtain ⟨p, c, rfl, _⟩ := h1; rfl
  ·exact AtL.cells1 (fun m hm => ho m (List.mem_cons_of_mem _ hm)) h2 u e
theorem AtL.bound {S : Nat → Prop} {w : World} {r : List M} {vs : List Value} (h : AtL S w r vs) : AtL (fun b => b < w.heap.size) w r vs := h.keep (fun b hs hlt => ⟨rfl, hlt⟩)
theorem RowsAt.flat {S : Nat → Prop} {w : World} {p : Option Addr} {sz : Nat} : ∀ {rows : List (List M)} {off : Nat}, (∀ r ∈ rows, ∀ m ∈ r, m.one' = true) → RowsAt S w p sz off rows →
  ∃ css : List (List Value), css.length = rows.length ∧ (∀ cs ∈ css, cs.length = sz) ∧ (∀ u ∈ css.flatMap id, u.oneCell' = true) ∧
   (∀ b o, p = some ⟨b, o, none⟩ → ∀ j u, (css.flatMap id)[j]? = some u → w.cell? ⟨b, o + off + j, none⟩ = some u) ∧ (∀ j (h : j < rows.length) (h' : j < css.length), AtL S w rows[j] css[j])
 | [], off, _, _ => ⟨[], rfl, by simp, by simp, by simp, fun j h => absurd h (Nat.not_lt_zero _)⟩
 | r :: rs, off, ho, h => by
  simp only [RowsAt] at h
  obtain ⟨⟨b, o, cs, h1, hS, h2, h3, h4⟩, h5⟩ := h
  obtain ⟨css, e1, e2, e3, e4, e5⟩ := RowsAt.flat (fun r' hr => ho r' (List.mem_cons_of_mem _ hr)) h5
  refine ⟨cs :: css, by simp [e1], fun c hc => ?_, fun u hu => ?_, fun b' o' hp j u hj => ?_, fun j hj hj' => ?_⟩
  ·rcases List.mem_cons.1 hc with e | e
   ·rw [e]; exact h2.1
   ·exact e2 c e
  ·rw [List.flatMap_cons] at hu
   rcases List.mem_append.1 hu with e | e
   ·exact AtL.cells1 (ho r (List.mem_cons_self ..)) h4 u e
   ·exact e3 u e
  ·rw [h1] at hp
   cases hp
   rw [List.flatMap_cons] at hj
   by_cases hlt : j < cs.length
   ·rw [List.getElem?_append_left (by simpa using hlt)] at hj
    exact h3 j u hj
   ·rw [List.getElem?_append_right (by simpa using hlt)] at hj
    have := e4 _ _ h1 (j - cs.length) u hj
    have h2' := h2.1
    rwa [show o + (off + sz) + (j - cs.length) = o + off + j by omega] at this
  ·match j, hj, hj' with
   | 0, _, _ => exact h4
   | j + 1, hj, hj' => exact e5 j (by simpa using hj) (by simpa using hj')
end M
def ClonePost (S : Nat → Prop) (w : World) (e : TypeId) (sz : Nat) (rows : List (List M)) (en : Ending) (w' : World) : Prop :=
 ∃ q c css, en = .returned (.slice q rows.length c) ∧ M.Grow e sz w' w.heap.size (.slice q rows.length c) rows css ∧ (∀ j (h : j < rows.length) (h' : j < css.length), M.AtL S w' rows[j] css[j]) ∧ Below w.heap.size w w'
theorem clone_post {S : Nat → Prop} {w w' : World} {e : TypeId} {sz : Nat} {rows : List (List M)} {css : List (List Value)} {v : Value} (hl : css.length = rows.length) (he : ∀ cs ∈ css, cs.length = sz) (hr : ∀ j (h : j < rows.length) (h' : j < css.length), M.AtL S w rows[j] css[j])
  (hown : w'.ownsRow w.heap.size e sz v rows.length (css.flatMap id)) (hb : Below w.heap.size w w') : ClonePost S w e sz rows (.returned v) w' := by
 have hB : ∀ j (h : j < rows.length) (h' : j < css.length), M.AtL (fun b => b < w.heap.size) w' rows[j] css[j] := fun j h h' => (hr j h h').bound.below hb
 have hS : ∀ j (h : j < rows.length) (h' : j < css.length), M.AtL S w' rows[j] css[j] := fun j h h' => (hr j h h').below hb
 rcases hown.2 with ⟨e1, hn⟩ | ⟨g, c, cur, e1, hg, hrest⟩
 ·have h0 : rows = [] := List.eq_nil_of_length_eq_zero hn
  subst h0
  have h1 : css = [] := List.eq_nil_of_length_eq_zero hl
  subst h1
  rw [e1]
  exact ⟨none, 0, [], rfl, M.Grow.nil _ _ _ _, fun j h => absurd h (Nat.not_lt_zero _), hb⟩
 ·subst e1
  refine ⟨_, c, css, rfl, ⟨hown, hl, he, fun j h h' => (hB j h h').mono fun b hlt e2 => ?_⟩, hS, hb⟩
  simp only [Value.ownBlock, Option.some.injEq] at e2
  omega
theorem flat_len' (n : Nat) : ∀ (l : List (List Value)) (hl : ∀ a ∈ l, a.length = n), (l.flatMap id).length = l.length * n
 | [], _ => by simp
 | a :: l, hl => by
  rw [List.flatMap_cons, List.length_append, flat_len' n l (fun x hx => hl x (List.mem_cons_of_mem _ hx)), List.length_cons, Nat.add_mul, Nat.one_mul, Nat.add_comm]
  congr 1
  exact hl a (List.mem_cons_self ..)
theorem clone_ready {S : Nat → Prop} {w : World} {e : TypeId} {sz : Nat} {rows : List (List M)} {p : Option Addr} {cap : Nat} (h : M.At S w (.many sz rows) (.slice p rows.length cap)) (ho : ∀ r ∈ rows, ∀ m ∈ r, m.one' = true) :
  ∃ xs : List Value, xs.length = rows.length * sz ∧ (∀ u ∈ xs, u.oneCell' = true) ∧ (∀ a, p = some a → ∀ j u, xs[j]? = some u → w.cell? (a.add j) = some u) ∧ (p = none → rows = [] ∧ xs = []) ∧
   ∀ (v : Value) (w' : World), w'.ownsRow w.heap.size e sz v rows.length xs → Below w.heap.size w w' → ClonePost S w e sz rows (.returned v) w' := by
 obtain ⟨p', cap', e', h1, h2⟩ := M.At.slice h
 simp only [Value.slice.injEq] at e'
 obtain ⟨rfl, -, rfl⟩ := e'
 obtain ⟨css, e1, e2, e3, e4, e5⟩ := M.RowsAt.flat ho h2
 refine ⟨css.flatMap id, by rw [flat_len' sz css e2, e1], e3, fun a ha j u hj => ?_, fun hp => ?_, fun v w' hown hb => clone_post e1 e2 e5 hown hb⟩
 ·have hlt : j < rows.length * sz := by
   have := (List.getElem?_eq_some_iff.1 hj).1
   rwa [flat_len' sz css e2, e1] at this
  have h0 : 0 < rows.length := by
   rcases Nat.eq_zero_or_pos rows.length with h0 | h0
   ·rw [h0, Nat.zero_mul] at hlt; omega
   ·exact h0
  obtain ⟨b, o, _, hp, _⟩ := M.At.get h 0 h0
  rw [hp] at ha
  cases ha
  have := e4 b o hp j u hj
  rw [Addr.add_lit]
  exact this
 ·have h0 : rows = [] := by
   rcases Nat.eq_zero_or_pos rows.length with h0 | h0
   ·exact List.eq_nil_of_length_eq_zero h0
   ·obtain ⟨b, o, _, e, _⟩ := M.At.get h 0 h0
    rw [hp] at e
    cases e
  refine ⟨h0, ?_⟩
  rw [h0] at e1
  rw [List.eq_nil_of_length_eq_zero e1]
  rfl
theorem grow_list {S T : Nat → Prop} {e : TypeId} {sz : Nat} (hsz : 0 < sz) {W : World} {base : Nat} {p : Option Addr} {n cap : Nat} {rows : List (List M)} {css : List (List Value)} (h : M.Grow e sz W base (.slice p n cap) rows css) (hr : ∀ j (h : j < rows.length) (h' : j < css.length), M.AtL S W rows[j] css[j])
  (hST : ∀ b, S b → T b) (hB : ∀ b, base ≤ b → T b) : M.At T W (.many sz rows) (.slice p n cap) := by
 obtain ⟨hn, h1, h2⟩ := h.room
 subst hn
 refine M.At.of ⟨h1, h2⟩ (M.RowsAt.mk hsz fun i hi => ?_)
 rcases h.own.2 with ⟨e, hn⟩ | ⟨g, c, cur, e, hbg, _⟩
 ·omega
 ·cases e
  have hi' : i < css.length := by rw [h.len]; exact hi
  refine ⟨g, 0, css[i], rfl, hB g hbg, h.each _ (List.getElem_mem hi'), fun j u hj => ?_, (hr i hi hi').mono hST⟩
  have hj' : j < sz := by
   have := (List.getElem?_eq_some_iff.1 hj).1
   rwa [h.each _ (List.getElem_mem hi')] at this
  have h3 := h.own.cells (g := g) rfl (i * sz + j) u (by rw [flat_get' sz css h.each i hi' j hj']; exact hj)
  rw [Addr.add_lit] at h3
  simpa using h3
theorem und73 : Tryz.prog.underlying 73 = some (.slice 72) := by kernel_rfl
theorem info72_parts : ∃ i z, Tryz.prog.info? 72 = some i ∧ i.zero = some z ∧ i.size = 1 ∧ i.bytes = 24 ∧ z.cells.size = 1 := ⟨_, _, rfl, rfl, rfl, rfl, rfl⟩
set_option maxHeartbeats 4000000 in
theorem clone83_calls {S : Nat → Prop} {w : World} {l : List ByteArray} {p : Option Addr} {cap : Nat} (h : M.At S w (bufsM l) (.slice p l.length cap)) (hl : l.length ≤ 100) :
  Calls Tryz.prog 83 #[.slice p l.length cap] w (ClonePost S w 72 1 (l.map fun s => [bytesM s])) := by
 obtain ⟨i0, z0, hi, hz0, hsz, hby, hzc⟩ := info72_parts
 have hnil := Lib.run_eql_slice_nil (P := Tryz.prog) w 73 72 p l.length cap 0 0 und73
 obtain ⟨-, -, hcap⟩ := list_room h
 have hll : (l.map fun s => [bytesM s]).length = l.length := List.length_map _
 obtain ⟨xs, h1, h2, h3, h4, h5⟩ := clone_ready (e := 72) (rows := l.map fun s => [bytesM s]) (by rw [hll]; exact h) (by simp [M.one', bytesM])
 rw [hll] at h1 h5
 have H1 := zh h1
 have H2 := zh h2
 have H3 := zh h3
 have H4 := zh h4
 have H5 := zh h5
 have HL := zh hll
 unfold maxLen at hcap
 clear h h1 h2 h3 h4 h5 hll
 cases p with
 | none =>
  go_enter Tryz.func83, Tryz.ntmps83
  go_wp2_with fail
  go_ret
  have h0 : l.length = 0 := by rw [← HL.o, (H4.o (by trivial)).1]; rfl
  exact H5.o _ _ (by rw [h0, (H4.o (by trivial)).2]; exact World.ownsRow_nil _ _ _ _) (Below.refl _ _)
 | some a =>
  go_enter Tryz.func83, Tryz.ntmps83
  go_wp2_with (at_builtin; refine wpList_append_own_at _ rfl _ _ 73 rfl w.heap.size 72 i0 z0 1 24 und73 hi hz0 hsz hby hzc (by decide) _ 0 [] rfl ?e2 a l.length cap xs rfl ?e4 ?e5 H2.o (by unfold maxLen; omega) (by omega) ?e9 ?_)
  case e2 => exact World.ownsRow_made w #[] 0 (Nat.le_refl _) (by unfold maxLen; omega) rfl
  case e4 => exact H1.o
  case e5 =>
   intro j u hj
   exact cell_below ((Below.refl _ w).alloc (Nat.le_refl _) _) (H3.o a rfl j u hj)
  case e9 => simp
  intro v' w1 hown hgrow hnil hat
  have HO := zh hown
  have HG := zh hgrow
  clear hown hgrow hnil hat
  go_wp2_with fail
  go_ret
  exact H5.o _ _ (by simpa using HO.o) (((Below.refl _ w).alloc (Nat.le_refl _) _).grown HG.o (by simp) (fun k e => by simp [Value.ownBlock] at e; omega))
mutual
def fdR : Fd → List M
 | .mk nm nl k wd id ix kids => [.one (.string nm), .one (.bool nl), .one (.int .i64 k), .one (.int .i64 wd), .one (.int .i64 id), .one (.int .i64 ix), .many 7 (fdL kids)]
def fdL : List Fd → List (List M)
 | [] => []
 | f :: r => fdR f :: fdL r
end
theorem fdL_eq : ∀ l : List Fd, fdL l = l.map fdR
 | [] => rfl
 | f :: r => by rw [fdL, fdL_eq r]; rfl
theorem fdR_eq (f : Fd) : fdR f = [.one (.string f.nm), .one (.bool f.nl), .one (.int .i64 f.k), .one (.int .i64 f.wd), .one (.int .i64 f.id), .one (.int .i64 f.ix), .many 7 (f.kids.map fdR)] := by
 cases f with
 | mk nm nl k wd id ix kids => rw [fdR, fdL_eq]; rfl
inductive FdOk : Fd → Prop
 | mk {f : Fd} : f.nm.size ≤ maxLen → i64B f.k ∧ i64B f.wd ∧ i64B f.id ∧ i64B f.ix → (∀ g ∈ f.kids, FdOk g) → FdOk f
theorem FdOk.nm {f : Fd} (h : FdOk f) : f.nm.size ≤ maxLen := by cases h; assumption
theorem FdOk.nums {f : Fd} (h : FdOk f) : i64B f.k ∧ i64B f.wd ∧ i64B f.id ∧ i64B f.ix := by cases h; assumption
theorem FdOk.kids {f : Fd} (h : FdOk f) : ∀ g ∈ f.kids, FdOk g := by cases h; assumption
mutual
theorem FdAt.toM {w : World} : ∀ {f : Fd} {cs : List Value}, FdAt w f cs → FdOk f ∧ M.AtL (fun _ => True) w (fdR f) cs
 | .mk nm nl k wd id ix kids, cs, h => by
  simp only [FdAt] at h
  obtain ⟨h0, h1, h2, h3, h4, p, cap, h5, h6, h7, h8⟩ := h
  obtain ⟨g1, g2⟩ := FdsC.toM h8
  have hl : (fdL kids).length = kids.length := by rw [fdL_eq, List.length_map]
  refine ⟨.mk h0 ⟨h1, h2, h3, h4⟩ g1, ?_⟩
  rw [h5, fdR]
  refine M.AtL.cons M.At.one (M.AtL.cons M.At.one (M.AtL.cons M.At.one (M.AtL.cons M.At.one (M.AtL.cons M.At.one (M.AtL.cons M.At.one (M.AtL.cons ?_ M.AtL.nil))))))
  rw [← hl]
  exact M.At.of (by rw [hl]; exact ⟨h6, h7⟩) g2
theorem FdsC.toM {w : World} {p : Option Addr} : ∀ {l : List Fd} {off : Nat}, FdsC w p off l → (∀ g ∈ l, FdOk g) ∧ M.RowsAt (fun _ => True) w p 7 off (fdL l)
 | [], off, h => by rw [fdL]; exact ⟨(fun _ h => by cases h), by simp only [M.RowsAt]⟩
 | f :: r, off, h => by
  simp only [FdsC] at h
  obtain ⟨⟨b, o, cs, h1, h2, h3⟩, h4⟩ := h
  obtain ⟨g1, g2⟩ := FdAt.toM h3
  obtain ⟨g3, g4⟩ := FdsC.toM h4
  obtain ⟨_, _, hcs, _⟩ := h3.shape
  refine ⟨fun g hg => ?_, ?_⟩
  ·rcases List.mem_cons.1 hg with e | e
   ·rw [e]; exact g1
   ·exact g3 g e
  ·rw [fdL]
   simp only [M.RowsAt]
   exact ⟨⟨b, o, cs, h1, trivial, ⟨by rw [hcs]; rfl, by decide⟩, h2, g2⟩, g4⟩
end
mutual
theorem FdAt.ofM {S : Nat → Prop} {w : World} : ∀ {f : Fd} {cs : List Value}, FdOk f → M.AtL S w (fdR f) cs → FdAt w f cs
 | .mk nm nl k wd id ix kids, cs, hok, h => by
  rw [fdR] at h
  obtain ⟨_, rfl, h1⟩ := M.AtL.one h
  obtain ⟨_, rfl, h2⟩ := M.AtL.one h1
  obtain ⟨_, rfl, h3⟩ := M.AtL.one h2
  obtain ⟨_, rfl, h4⟩ := M.AtL.one h3
  obtain ⟨_, rfl, h5⟩ := M.AtL.one h4
  obtain ⟨_, rfl, h6⟩ := M.AtL.one h5
  obtain ⟨p, cap, _, rfl, h7, h8⟩ := M.AtL.many h6
  cases M.AtL.end h8
  obtain ⟨_, _, e, hr, hrows⟩ := M.At.slice h7
  cases e
  have hl : (fdL kids).length = kids.length := by rw [fdL_eq, List.length_map]
  rw [hl] at hr ⊢
  simp only [FdAt]
  exact ⟨hok.nm, hok.nums.1, hok.nums.2.1, hok.nums.2.2.1, hok.nums.2.2.2, p, cap, rfl, hr.1, hr.2, FdsC.ofM hok.kids hrows⟩
theorem FdsC.ofM {S : Nat → Prop} {w : World} {p : Option Addr} : ∀ {l : List Fd} {off : Nat}, (∀ g ∈ l, FdOk g) → M.RowsAt S w p 7 off (fdL l) → FdsC w p off l
 | [], off, _, h => by simp only [FdsC]
 | f :: r, off, hok, h => by
  rw [fdL] at h
  simp only [M.RowsAt] at h
  obtain ⟨⟨b, o, cs, h1, hS, h2, h3, h4⟩, h5⟩ := h
  simp only [FdsC]
  exact ⟨⟨b, o, cs, h1, h3, FdAt.ofM (hok f (List.mem_cons_self ..)) h4⟩, FdsC.ofM (fun g hg => hok g (List.mem_cons_of_mem _ hg)) h5⟩
end
set_option maxHeartbeats 4000000 in
theorem clone82_calls {S : Nat → Prop} {w : World} {l : List Fd} {p : Option Addr} {cap : Nat} (h : M.At S w (.many 7 (l.map fdR)) (.slice p l.length cap)) (hl : l.length ≤ 100) :
  Calls Tryz.prog 82 #[.slice p l.length cap] w (ClonePost S w 59 7 (l.map fdR)) := by
 obtain ⟨i0, z0, hi, hz0, hzc, hsz, hby⟩ := info28_parts
 have hnil := Lib.run_eql_slice_nil (P := Tryz.prog) w 23 59 p l.length cap 0 0 und23
 obtain ⟨-, -, hcap⟩ := list_room h
 have hll : (l.map fdR).length = l.length := List.length_map _
 obtain ⟨xs, h1, h2, h3, h4, h5⟩ := clone_ready (e := 59) (rows := l.map fdR) (by rw [hll]; exact h) (by simp [fdR_eq, M.one', Value.oneCell'])
 rw [hll] at h1 h5
 have H1 := zh h1
 have H2 := zh h2
 have H3 := zh h3
 have H4 := zh h4
 have H5 := zh h5
 have HL := zh hll
 unfold maxLen at hcap
 clear h h1 h2 h3 h4 h5 hll
 cases p with
 | none =>
  go_enter Tryz.func82, Tryz.ntmps82
  go_wp2_with fail
  go_ret
  have h0 : l.length = 0 := by rw [← HL.o, (H4.o (by trivial)).1]; rfl
  exact H5.o _ _ (by rw [h0, (H4.o (by trivial)).2]; exact World.ownsRow_nil _ _ _ _) (Below.refl _ _)
 | some a =>
  go_enter Tryz.func82, Tryz.ntmps82
  go_wp2_with (at_builtin; refine wpList_append_own_at _ rfl _ _ 23 rfl w.heap.size 59 i0 z0 7 80 und23 hi hz0 hsz hby hzc (by decide) _ 0 [] rfl ?e2 a l.length cap xs rfl ?e4 ?e5 H2.o (by unfold maxLen; omega) (by omega) ?e9 ?_)
  case e2 => exact World.ownsRow_made w #[] 0 (Nat.le_refl _) (by unfold maxLen; omega) rfl
  case e4 => exact H1.o
  case e5 =>
   intro j u hj
   exact cell_below ((Below.refl _ w).alloc (Nat.le_refl _) _) (H3.o a rfl j u hj)
  case e9 => simp
  intro v' w1 hown hgrow hnil hat
  have HO := zh hown
  have HG := zh hgrow
  clear hown hgrow hnil hat
  go_wp2_with fail
  go_ret
  exact H5.o _ _ (by simpa using HO.o) (((Below.refl _ w).alloc (Nat.le_refl _) _).grown HG.o (by simp) (fun k e => by simp [Value.ownBlock] at e; omega))
end Go.Fld
namespace Go.Fld
open Go Go.RowKit Go.Proofs Go.ChangeShapes Go.WideShapes Go.ChangeAt Go.Shelf Go.Fld.Late
def putR (W : World) (b o : Nat) (c0 c1 c2 c3 c4 c5 c6 : Value) : World :=
 ((((((W.setCell ⟨b, o, none⟩ c0).setCell ⟨b, o + 1, none⟩ c1).setCell ⟨b, o + 2, none⟩ c2).setCell ⟨b, o + 3, none⟩ c3).setCell ⟨b, o + 4, none⟩ c4).setCell ⟨b, o + 5, none⟩ c5).setCell ⟨b, o + 6, none⟩ c6
def setR (l : List Value) (o : Nat) (c0 c1 c2 c3 c4 c5 c6 : Value) : List Value := ((((((l.set o c0).set (o + 1) c1).set (o + 2) c2).set (o + 3) c3).set (o + 4) c4).set (o + 5) c5).set (o + 6) c6
theorem putR_box {W : World} {b o : Nat} {t : TypeId} {l : List Value} (h : BoxN W b t l) (c0 c1 c2 c3 c4 c5 c6 : Value) : BoxN (putR W b o c0 c1 c2 c3 c4 c5 c6) b t (setR l o c0 c1 c2 c3 c4 c5 c6) :=
 ((((((h.set o c0).set (o + 1) c1).set (o + 2) c2).set (o + 3) c3).set (o + 4) c4).set (o + 5) c5).set (o + 6) c6
theorem putR_other {W : World} {b o k : Nat} (hk : k ≠ b) (c0 c1 c2 c3 c4 c5 c6 : Value) : (putR W b o c0 c1 c2 c3 c4 c5 c6).heap[k]? = W.heap[k]? := by
 unfold putR
 rw [Below.heap_setCell _ _ _ k hk, Below.heap_setCell _ _ _ k hk, Below.heap_setCell _ _ _ k hk, Below.heap_setCell _ _ _ k hk, Below.heap_setCell _ _ _ k hk, Below.heap_setCell _ _ _ k hk, Below.heap_setCell _ _ _ k hk]
theorem putR_below {W w : World} {n b o : Nat} (h : Below n w W) (hn : n ≤ b) (c0 c1 c2 c3 c4 c5 c6 : Value) : Below n w (putR W b o c0 c1 c2 c3 c4 c5 c6) :=
 ((((((h.setCell (p := ⟨b, o, none⟩) hn c0).setCell (p := ⟨b, o + 1, none⟩) hn c1).setCell (p := ⟨b, o + 2, none⟩) hn c2).setCell (p := ⟨b, o + 3, none⟩) hn c3).setCell (p := ⟨b, o + 4, none⟩) hn c4).setCell (p := ⟨b, o + 5, none⟩) hn c5).setCell (p := ⟨b, o + 6, none⟩) hn c6
theorem setR_far {l : List Value} {o j : Nat} (h : j < o ∨ o + 7 ≤ j) (c0 c1 c2 c3 c4 c5 c6 : Value) : (setR l o c0 c1 c2 c3 c4 c5 c6)[j]? = l[j]? := by
 unfold setR
 rw [List.getElem?_set_ne (by omega), List.getElem?_set_ne (by omega), List.getElem?_set_ne (by omega), List.getElem?_set_ne (by omega), List.getElem?_set_ne (by omega), List.getElem?_set_ne (by omega), List.getElem?_set_ne (by omega)]
theorem setR_at {l : List Value} {o : Nat} (h : o + 7 ≤ l.length) (c0 c1 c2 c3 c4 c5 c6 : Value) : ∀ (i : Nat) (u : Value), [c0, c1, c2, c3, c4, c5, c6][i]? = some u → (setR l o c0 c1 c2 c3 c4 c5 c6)[o + i]? = some u := by
 intro i u hi
 unfold setR
 match i, hi with
 | 0, hi => cases hi; simp [List.getElem?_set]; omega
 | 1, hi => cases hi; simp [List.getElem?_set]; omega
 | 2, hi => cases hi; simp [List.getElem?_set]; omega
 | 3, hi => cases hi; simp [List.getElem?_set]; omega
 | 4, hi => cases hi; simp [List.getElem?_set]; omega
 | 5, hi => cases hi; simp [List.getElem?_set]; omega
 | 6, hi => cases hi; simp [List.getElem?_set]; omega
def RowsIn (T : Nat → Nat → Prop) (W : World) (g : Nat) (rows : List (List M)) : Prop := ∃ cur, BoxN W g 59 cur ∧ rows.length * 7 ≤ cur.length ∧ ∀ j (h : j < rows.length), ∃ cs, cs.length = 7 ∧ (∀ i u, cs[i]? = some u → cur[j * 7 + i]? = some u) ∧ M.AtL (fun b => T j b ∧ b ≠ g) W rows[j] cs
theorem RowsIn.below {T : Nat → Nat → Prop} {W W' : World} {g : Nat} {rows : List (List M)} (h : RowsIn T W g rows) (hb : Below W.heap.size W W') : RowsIn T W' g rows := by
 obtain ⟨cur, h1, h2, h3⟩ := h
 refine ⟨cur, h1.below hb h1.lt, h2, fun j hj => ?_⟩
 obtain ⟨cs, e1, e2, e3⟩ := h3 j hj
 exact ⟨cs, e1, e2, e3.below hb⟩
theorem RowsIn.put {T T' : Nat → Nat → Prop} {W : World} {g : Nat} {rows : List (List M)} (h : RowsIn T W g rows) {k : Nat} (hk : k < rows.length) (hT : ∀ j b, j ≠ k → T j b → T' j b) {c0 c1 c2 c3 c4 c5 c6 : Value} (hr : M.AtL (fun b => T' k b ∧ b ≠ g) W rows[k] [c0, c1, c2, c3, c4, c5, c6]) : RowsIn T' (putR W g (k * 7) c0 c1 c2 c3 c4 c5 c6) g rows := by
 obtain ⟨cur, h1, h2, h3⟩ := h
 have keep : ∀ {S : Nat → Prop} {r : List M} {cs : List Value}, M.AtL (fun b => S b ∧ b ≠ g) W r cs → M.AtL (fun b => S b ∧ b ≠ g) (putR W g (k * 7) c0 c1 c2 c3 c4 c5 c6) r cs := fun hh => hh.keep fun b hs _ => ⟨putR_other hs.2 c0 c1 c2 c3 c4 c5 c6, hs⟩
 refine ⟨_, putR_box h1 c0 c1 c2 c3 c4 c5 c6, by unfold setR; simpa using h2, fun j hj => ?_⟩
 by_cases e : j = k
 ·subst e
  exact ⟨[c0, c1, c2, c3, c4, c5, c6], rfl, fun i u hi => setR_at (by omega) c0 c1 c2 c3 c4 c5 c6 i u hi, keep hr⟩
 ·obtain ⟨cs, e1, e2, e3⟩ := h3 j hj
  refine ⟨cs, e1, fun i u hi => ?_, keep (e3.mono fun b hb => ⟨hT j b e hb.1, hb.2⟩)⟩
  have hi7 : i < 7 := by
   have := (List.getElem?_eq_some_iff.1 hi).1
   omega
  rw [setR_far (by omega)]
  exact e2 i u hi
theorem RowsIn.list {T : Nat → Nat → Prop} {S : Nat → Prop} {W : World} {g n c : Nat} {rows : List (List M)} (h : RowsIn T W g rows) (hn : n = rows.length) (hc : n ≤ c ∧ c ≤ maxLen) (hS : S g) (hT : ∀ j b, j < n → T j b → S b) : M.At S W (.many 7 rows) (.slice (some ⟨g, 0, none⟩) n c) := by
 subst hn
 obtain ⟨cur, h1, h2, h3⟩ := h
 refine M.At.of hc (M.RowsAt.mk (by decide) fun i hi => ?_)
 obtain ⟨cs, e1, e2, e3⟩ := h3 i hi
 refine ⟨g, 0, cs, rfl, hS, e1, fun j u hj => ?_, e3.mono fun b hb => hT i b hi hb.1⟩
 have := h1.row _ _ (e2 j u hj)
 rwa [show 0 + (0 + i * 7) + j = i * 7 + j by omega]
theorem RowsIn.of {T : Nat → Nat → Prop} {S : Nat → Prop} {W : World} {base g n c : Nat} {rows : List (List M)} {css : List (List Value)} (h : M.Grow 59 7 W base (.slice (some ⟨g, 0, none⟩) n c) rows css) (hs : ∀ j (h : j < rows.length) (h' : j < css.length), M.AtL S W rows[j] css[j]) (hT : ∀ j b, S b → T j b) (hS : ∀ b, S b → b < base) : RowsIn T W g rows ∧ base ≤ g := by
 rcases h.own.2 with ⟨e, _⟩ | ⟨g', c', cur, e, hb, hh, h1, h2, h3, h4⟩
 ·cases e
 ·cases e
  refine ⟨⟨cur.toList, by unfold BoxN; rw [hh], by simp only [Array.length_toList]; rw [h3]; exact Nat.mul_le_mul_right 7 h1, fun j hj => ?_⟩, hb⟩
  have hj' : j < css.length := by rw [h.len]; exact hj
  refine ⟨css[j], h.each _ (List.getElem_mem hj'), fun i u hi => ?_, (hs j hj hj').mono fun b hb' => ⟨hT j b hb', by have := hS b hb'; omega⟩⟩
  have hi7 : i < 7 := by
   have := (List.getElem?_eq_some_iff.1 hi).1
   rwa [h.each _ (List.getElem_mem hj')] at this
  have h5 := flat_get' 7 css h.each j hj' i hi7
  rw [hi, ← h4] at h5
  rw [List.getElem?_take] at h5
  split at h5
  ·exact h5
  ·cases h5
theorem RowsIn.other {T : Nat → Nat → Prop} {W : World} {g : Nat} {rows : List (List M)} (h : RowsIn T W g rows) {a : Addr} (hg : g ≠ a.block) (hT : ∀ j b, T j b → b ≠ a.block) (v : Value) : RowsIn T (W.setCell a v) g rows := by
 obtain ⟨cur, h1, h2, h3⟩ := h
 refine ⟨cur, h1.other hg v, h2, fun j hj => ?_⟩
 obtain ⟨cs, e1, e2, e3⟩ := h3 j hj
 exact ⟨cs, e1, e2, e3.keep fun b hs _ => ⟨Below.heap_setCell _ _ _ b (hT j b hs.1), hs⟩⟩
theorem RowsIn.cells {T : Nat → Nat → Prop} {W : World} {g : Nat} {rows : List (List M)} (h : RowsIn T W g rows) (k : Nat) (hk : k < rows.length) : ∃ cs, cs.length = 7 ∧ (∀ i u, cs[i]? = some u → W.cell? ⟨g, k * 7 + i, none⟩ = some u) ∧ M.AtL (fun _ => True) W rows[k] cs := by
 obtain ⟨cur, h1, h2, h3⟩ := h
 obtain ⟨cs, e1, e2, e3⟩ := h3 k hk
 exact ⟨cs, e1, fun i u hi => h1.row _ _ (e2 i u hi), e3.mono fun _ _ => trivial⟩
theorem RowsIn.frozen {T : Nat → Nat → Prop} {W : World} {g : Nat} {rows : List (List M)} (h : RowsIn T W g rows) (i : Nat) : W.frozen? ⟨g, i, none⟩ = false := by
 obtain ⟨cur, h1, _⟩ := h
 exact h1.frozen i
theorem RowsIn.lt {T : Nat → Nat → Prop} {W : World} {g : Nat} {rows : List (List M)} (h : RowsIn T W g rows) : g < W.heap.size := by
 obtain ⟨cur, h1, _⟩ := h
 exact h1.lt
theorem fd_cells {S : Nat → Prop} {w : World} {f : Fd} {cs : List Value} (h : M.AtL S w (fdR f) cs) : ∃ p c, cs = [.string f.nm, .bool f.nl, .int .i64 f.k, .int .i64 f.wd, .int .i64 f.id, .int .i64 f.ix, .slice p f.kids.length c] ∧ M.At S w (.many 7 (f.kids.map fdR)) (.slice p f.kids.length c) := by
 rw [fdR_eq] at h
 obtain ⟨_, rfl, h1⟩ := M.AtL.one h
 obtain ⟨_, rfl, h2⟩ := M.AtL.one h1
 obtain ⟨_, rfl, h3⟩ := M.AtL.one h2
 obtain ⟨_, rfl, h4⟩ := M.AtL.one h3
 obtain ⟨_, rfl, h5⟩ := M.AtL.one h4
 obtain ⟨_, rfl, h6⟩ := M.AtL.one h5
 obtain ⟨p, cap, _, rfl, h7, h8⟩ := M.AtL.many h6
 cases M.AtL.end h8
 rw [List.length_map] at h7 ⊢
 exact ⟨p, cap, rfl, h7⟩
theorem fd_make {S : Nat → Prop} {w : World} {f : Fd} {p : Option Addr} {c : Nat} (h : M.At S w (.many 7 (f.kids.map fdR)) (.slice p f.kids.length c)) : M.AtL S w (fdR f) [.string f.nm, .bool f.nl, .int .i64 f.k, .int .i64 f.wd, .int .i64 f.id, .int .i64 f.ix, .slice p f.kids.length c] := by
 rw [fdR_eq]
 exact M.AtL.cons M.At.one (M.AtL.cons M.At.one (M.AtL.cons M.At.one (M.AtL.cons M.At.one (M.AtL.cons M.At.one (M.AtL.cons M.At.one (M.AtL.cons h M.AtL.nil))))))
def CfPost (w : World) (f : Fd) (e : Ending) (w' : World) : Prop := ∃ p c, e = .returned (.agg #[.string f.nm, .bool f.nl, .int .i64 f.k, .int .i64 f.wd, .int .i64 f.id, .int .i64 f.ix, .slice p f.kids.length c]) ∧
 M.AtL (fun b => w.heap.size ≤ b) w' (fdR f) [.string f.nm, .bool f.nl, .int .i64 f.k, .int .i64 f.wd, .int .i64 f.id, .int .i64 f.ix, .slice p f.kids.length c] ∧ Below w.heap.size w w'
theorem cf_back {fn : Func} {i : Nat} (hfn : fn.results = #[.cell i 59]) {w W : World} {rb : Nat} {g : Fd} {p : Option Addr} {cap : Nat} (hbx : BoxN W rb 59 [.string g.nm, .bool g.nl, .int .i64 g.k, .int .i64 g.wd, .int .i64 g.id, .int .i64 g.ix, .slice p g.kids.length cap])
  (hg : M.AtL (fun b => w.heap.size ≤ b) W (fdR g) [.string g.nm, .bool g.nl, .int .i64 g.k, .int .i64 g.wd, .int .i64 g.id, .int .i64 g.ix, .slice p g.kids.length cap]) (hB : Below w.heap.size w W)
  {tmps : Array Value} (ht : tmps.getD i undef = .pointer (some ⟨rb, 0, none⟩)) : bodyPost Tryz.prog fn (CfPost w g) Exit.ret { tmps := tmps, defers := [] } W :=
 bodyPost_ret (fd_res hfn ht hbx.row) rfl ⟨p, cap, rfl, hg, hB⟩
set_option maxHeartbeats 4000000 in
theorem cf_step {w : World} {f : Fd} {cs : List Value} (hf : M.AtL (fun _ => True) w (fdR f) cs) (hsm : f.kids.length ≤ 100)
  (ih : ∀ g ∈ f.kids, ∀ (w : World) (cs : List Value), M.AtL (fun _ => True) w (fdR g) cs → Calls Tryz.prog 67 #[.agg cs.toArray] w (CfPost w g)) :
  Calls Tryz.prog 67 #[.agg cs.toArray] w (CfPost w f) := by
 obtain ⟨p, cap, rfl, hk⟩ := fd_cells hf
 have HK := zh hk
 have HI := zh ih
 have HSM := zh hsm
 clear hf hk ih
 obtain ⟨W1, hW, a1, a2, hBW⟩ := boxes2 w 59 [.string f.nm, .bool f.nl, .int .i64 f.k, .int .i64 f.wd, .int .i64 f.id, .int .i64 f.ix, .slice p f.kids.length cap] 59 [Value.string ⟨#[]⟩, Value.bool false, Value.int .i64 0, Value.int .i64 0, Value.int .i64 0, Value.int .i64 0, Value.slice none 0 0]
 have hs1 : W1.heap.size = w.heap.size + 1 + 1 := by rw [hW, World.size_alloc, World.size_alloc]
 have HW := zh hW
 have A1 := zh a1
 have A2 := zh a2
 have HBW := zh hBW
 have HS1 := zh hs1
 have q6 := a1.row 6 _ rfl
 clear hW a1 a2 hBW hs1
 go_enter Tryz.func67, Tryz.ntmps67
 go_wp2_with fail
 rw [← HW.o]
 clear HW
 refine (clone82_calls (S := fun b => b < w.heap.size) ((M.At.keep (fun b hs hlt => ⟨rfl, hlt⟩) HK.o).below HBW.o) HSM.o).mono ?_
 rintro e W2 ⟨q, c, css, rfl, hg, hs, hb⟩
 rw [List.length_map] at *
 have HG := zh hg
 have HGS := zh hs
 have HB2 := zh (HBW.o.trans (hb.mono HBW.o.size))
 have b1 := A1.o.below hb A1.o.lt
 have b2 := A2.o.below hb A2.o.lt
 have z6 := b1.frozen 6
 have y6 := b1.row 6 _ rfl
 have hlt1 := b1.lt
 have B1 := zh b1
 have B2 := zh b2
 have HBS := zh hb.size
 clear hg hb b1 b2 hs
 obtain ⟨N, hN⟩ : ∃ N, N = w.heap.size := ⟨_, rfl⟩
 obtain ⟨V, hV⟩ : ∃ V, V = W2.setCell ⟨w.heap.size, 6, none⟩ (.slice q f.kids.length c) := ⟨_, rfl⟩
 have v1 : BoxN V w.heap.size 59 [.string f.nm, .bool f.nl, .int .i64 f.k, .int .i64 f.wd, .int .i64 f.id, .int .i64 f.ix, .slice q f.kids.length c] := by rw [hV]; exact B1.o.set 6 _
 have v2 : BoxN V (w.heap.size + 1) 59 [Value.string ⟨#[]⟩, Value.bool false, Value.int .i64 0, Value.int .i64 0, Value.int .i64 0, Value.int .i64 0, Value.slice none 0 0] := by rw [hV]; exact B2.o.other (by show w.heap.size + 1 ≠ w.heap.size; omega) _
 have hVB : Below w.heap.size w V := by rw [hV]; exact HB2.o.setCell (p := ⟨w.heap.size, 6, none⟩) (Nat.le_refl _) _
 have hrooms : f.kids.length ≤ c ∧ c ≤ maxLen := by have := HG.o.room; rw [List.length_map] at this; exact this.2
 have hVR : ∀ g, q = some ⟨g, 0, none⟩ → RowsIn (fun j b => (0 ≤ j ∧ b < w.heap.size) ∨ w.heap.size + 2 ≤ b) V g (f.kids.map fdR) ∧ w.heap.size + 2 ≤ g := fun g e => by
  subst e
  obtain ⟨r1, r2⟩ := RowsIn.of (T := fun j b => (0 ≤ j ∧ b < w.heap.size) ∨ w.heap.size + 2 ≤ b) HG.o HGS.o (fun j b hb => .inl ⟨Nat.zero_le _, hb⟩) (fun b hb => by have := HS1.o; omega)
  have := HS1.o
  refine ⟨?_, by omega⟩
  rw [hV]
  exact r1.other (by show g ≠ w.heap.size; omega) (fun j b hb => by show b ≠ w.heap.size; omega) _
 have hq : f.kids.length = 0 ∨ ∃ g, q = some ⟨g, 0, none⟩ := by
  rcases HG.o.own.2 with ⟨e, hn⟩ | ⟨g, _, _, e, _⟩
  ·rw [List.length_map] at hn; exact .inl hn
  ·simp only [Value.slice.injEq] at e; exact .inr ⟨g, e.1⟩
 have V1 := zh v1
 have V2 := zh v2
 have HVB := zh hVB
 have HVR := zh hVR
 have HQ := zh hq
 have HV := zh hV
 have HRM := zh hrooms
 have u6 := v1.row 6 _ rfl
 clear hV v1 v2 hVB hVR hq hN hrooms
 go_wp2_with fail
 rw [← HV.o]
 clear HV y6 z6 q6 hlt1
 go_loopw [14] (fun i wr => ∃ k : Nat, k ≤ f.kids.length ∧ i = .int .i64 k ∧ Hid (Below w.heap.size w wr) ∧ Hid (BoxN wr w.heap.size 59 [.string f.nm, .bool f.nl, .int .i64 f.k, .int .i64 f.wd, .int .i64 f.id, .int .i64 f.ix, .slice q f.kids.length c]) ∧ Hid (BoxN wr (w.heap.size + 1) 59 [Value.string ⟨#[]⟩, Value.bool false, Value.int .i64 0, Value.int .i64 0, Value.int .i64 0, Value.int .i64 0, Value.slice none 0 0]) ∧ Hid (∀ g, q = some ⟨g, 0, none⟩ → RowsIn (fun j b => (k ≤ j ∧ b < w.heap.size) ∨ w.heap.size + 2 ≤ b) wr g (f.kids.map fdR) ∧ w.heap.size + 2 ≤ g)) (fun i _ => f.kids.length - (intOf i).toNat)
 case atStart => exact ⟨0, by omega, rfl, HVB, V1, V2, HVR⟩
 case round =>
  obtain ⟨k, hk, rfl, HB, R1, R2, HR⟩ := hrel
  by_cases hlt : k < f.kids.length
  ·obtain ⟨g, hg⟩ : ∃ g, q = some ⟨g, 0, none⟩ := by
    rcases HQ.o with h | h
    ·omega
    ·exact h
   have HR' := HR.o g hg
   subst hg
   obtain ⟨cs, hcs, hce, hrow⟩ := HR'.1.cells k (by rw [List.length_map]; exact hlt)
   simp only [List.getElem_map] at hrow
   obtain ⟨p1, c1, rfl, -⟩ := fd_cells hrow
   have HIG := zh (HI.o f.kids[k] (List.getElem_mem hlt))
   have HROW := zh hrow
   have HRR := zh HR'
   have HG0 := zh (show f.kids[k] = f.kids[k] from rfl)
   have x0 := hce 0 _ rfl
   have x1 := hce 1 _ rfl
   have x2 := hce 2 _ rfl
   have x3 := hce 3 _ rfl
   have x4 := hce 4 _ rfl
   have x5 := hce 5 _ rfl
   have x6 := hce 6 _ rfl
   rw [Nat.add_zero] at x0
   have hs0 : wr.drew.cell? ⟨w.heap.size, 6, none⟩ = some (.slice (some ⟨g, 0, none⟩) f.kids.length c) := R1.o.row 6 _ rfl
   have HS0 := zh hs0
   have hc1 := HRM.o
   unfold maxLen at hc1
   obtain ⟨hc1, hc2⟩ := hc1
   have hgl := HR'.1.lt
   have HKD : Hid (∃ kd, kd = f.kids[k]) := zh ⟨_, rfl⟩
   generalize hkd : f.kids[k] = kd at *
   have HKE := zh hkd
   clear hkd HR' hcs hce hrow hs0 HKD HG0
   go_wp2_with fail
   refine Late.region (fun w' => w'.cell? ⟨w.heap.size, 6, none⟩ = some (.slice (some ⟨g, 0, none⟩) f.kids.length c)) (fun _ => false) (by kernel_rfl) ?_
   refine Late.tk (i := 0) (v := ?_) rfl (by kernel_rfl) ⟨by rfl, ?_⟩ HS0.o ?_
   rotate_left
   ·intro w' hS
    go_simp
    rfl
   refine Late.tk (i := 1) (v := ?_) rfl (by kernel_rfl) ⟨by rfl, ?_⟩ HS0.o ?_
   rotate_left
   ·intro w' hS
    go_simp
    rfl
   refine Late.tk (i := 2) (v := ?_) rfl (by kernel_rfl) ⟨by rfl, ?_⟩ HS0.o ?_
   rotate_left
   ·intro w' hS
    go_simp
    rfl
   refine Late.tk (i := 3) (v := ?_) rfl (by kernel_rfl) ⟨by rfl, ?_⟩ HS0.o ?_
   rotate_left
   ·intro w' hS
    go_simp
    rfl
   refine Late.tk (i := 4) (v := ?_) rfl (by kernel_rfl) ⟨by rfl, ?_⟩ HS0.o ?_
   rotate_left
   ·intro w' hS
    go_simp
    rfl
   refine Late.tk (i := 5) (v := ?_) rfl (by kernel_rfl) ⟨by rfl, ?_⟩ HS0.o ?_
   rotate_left
   ·intro w' hS
    go_simp
    rfl
   refine Late.tk (i := 6) (v := ?_) rfl (by kernel_rfl) ⟨by rfl, ?_⟩ HS0.o ?_
   rotate_left
   ·intro w' hS
    go_simp
    rfl
   refine Late.tk (i := 7) (v := ?_) rfl (by kernel_rfl) ⟨by rfl, ?_⟩ HS0.o ?_
   rotate_left
   ·intro w' hS
    go_simp
    rfl
   refine Late.tk (i := 8) (v := ?_) rfl (by kernel_rfl) ⟨by rfl, ?_⟩ HS0.o ?_
   rotate_left
   ·intro w' hS
    go_simp
    rfl
   refine Late.one (i := 9) (by kernel_rfl) rfl (fun K hK => ?_)
   go_simp
   refine hK _ _ (fun _ => HS0.o) ?_
   clear hK K
   refine Late.one (i := 10) (by kernel_rfl) rfl (fun K hK => ?_)
   go_simp
   refine (HIG.o wr.drew _ (HROW.o.below (below_drew (Below.refl _ wr)))).mono ?_
   rintro e W4 ⟨p2, c2, rfl, hfd, hb4⟩
   have HB4 := zh hb4
   have HFD := zh hfd
   have hs4 : W4.cell? ⟨w.heap.size, 6, none⟩ = some (.slice (some ⟨g, 0, none⟩) f.kids.length c) := cell_below hb4 HS0.o
   have HS4 := zh hs4
   have r4 := HRR.o.1.below (show Below wr.heap.size wr W4 from (below_drew (Below.refl _ wr)).trans (hb4.mono (Nat.le_refl _)))
   have R4 := zh r4
   have zz0 := r4.frozen (k * 7)
   have zz1 := r4.frozen (k * 7 + 1)
   have zz2 := r4.frozen (k * 7 + 2)
   have zz3 := r4.frozen (k * 7 + 3)
   have zz4 := r4.frozen (k * 7 + 4)
   have zz5 := r4.frozen (k * 7 + 5)
   have zz6 := r4.frozen (k * 7 + 6)
   obtain ⟨cs4, hcs4, hce4, -⟩ := r4.cells k (by rw [List.length_map]; exact hlt)
   have d0 := hce4 0 cs4[0] (by rw [List.getElem?_eq_getElem])
   have d1 := hce4 1 cs4[1] (by rw [List.getElem?_eq_getElem])
   have d2 := hce4 2 cs4[2] (by rw [List.getElem?_eq_getElem])
   have d3 := hce4 3 cs4[3] (by rw [List.getElem?_eq_getElem])
   have d4 := hce4 4 cs4[4] (by rw [List.getElem?_eq_getElem])
   have d5 := hce4 5 cs4[5] (by rw [List.getElem?_eq_getElem])
   have d6 := hce4 6 cs4[6] (by rw [List.getElem?_eq_getElem])
   rw [Nat.add_zero] at d0
   have hsz4 : wr.heap.size ≤ W4.heap.size := hb4.size
   clear hb4 hfd hs4 r4 hce4 x0 x1 x2 x3 x4 x5 x6
   refine hK _ _ (fun _ => HS4.o) ?_
   clear hK K
   refine Late.one (i := 11) (by kernel_rfl) rfl (fun K hK => ?_)
   go_simp
   refine hK _ _ (fun _ => HS4.o) ?_
   clear hK K
   refine Late.one (i := 12) (by kernel_rfl) rfl (fun K hK => ?_)
   go_simp
   have hbn := HBS.o
   have hn1 := HS1.o
   have hgn := HRR.o.2
   have hne : w.heap.size ≠ g := by omega
   have hne1 : w.heap.size + 1 ≠ g := by omega
   have e1 : Below w.heap.size w (putR W4 g (k * 7) (.string kd.nm) (.bool kd.nl) (.int .i64 kd.k) (.int .i64 kd.wd) (.int .i64 kd.id) (.int .i64 kd.ix) (.slice p2 kd.kids.length c2)) := putR_below ((HB.o.trans ((below_drew (Below.refl _ wr)).mono HB.o.size)).trans (HB4.o.mono HB.o.size)) (by omega) _ _ _ _ _ _ _
   have e2 : BoxN (putR W4 g (k * 7) (.string kd.nm) (.bool kd.nl) (.int .i64 kd.k) (.int .i64 kd.wd) (.int .i64 kd.id) (.int .i64 kd.ix) (.slice p2 kd.kids.length c2)) w.heap.size 59 [.string f.nm, .bool f.nl, .int .i64 f.k, .int .i64 f.wd, .int .i64 f.id, .int .i64 f.ix, .slice (some ⟨g, 0, none⟩) f.kids.length c] := (putR_other hne _ _ _ _ _ _ _).trans (R1.o.below (show Below wr.heap.size wr W4 from (below_drew (Below.refl _ wr)).trans (HB4.o.mono (Nat.le_refl _))) R1.o.lt)
   have e3 : BoxN (putR W4 g (k * 7) (.string kd.nm) (.bool kd.nl) (.int .i64 kd.k) (.int .i64 kd.wd) (.int .i64 kd.id) (.int .i64 kd.ix) (.slice p2 kd.kids.length c2)) (w.heap.size + 1) 59 [Value.string ⟨#[]⟩, Value.bool false, Value.int .i64 0, Value.int .i64 0, Value.int .i64 0, Value.int .i64 0, Value.slice none 0 0] := (putR_other hne1 _ _ _ _ _ _ _).trans (R2.o.below (show Below wr.heap.size wr W4 from (below_drew (Below.refl _ wr)).trans (HB4.o.mono (Nat.le_refl _))) R2.o.lt)
   have e4 : RowsIn (fun j b => (k + 1 ≤ j ∧ b < w.heap.size) ∨ w.heap.size + 2 ≤ b) (putR W4 g (k * 7) (.string kd.nm) (.bool kd.nl) (.int .i64 kd.k) (.int .i64 kd.wd) (.int .i64 kd.id) (.int .i64 kd.ix) (.slice p2 kd.kids.length c2)) g (f.kids.map fdR) := by
    refine R4.o.put (by rw [List.length_map]; exact hlt) (fun j b hj hb => ?_) ?_
    ·rcases hb with h | h
     ·exact .inl ⟨by omega, h.2⟩
     ·exact .inr h
    ·simp only [List.getElem_map]
     rw [HKE.o]
     exact HFD.o.mono fun b hb => by
      have hb' : wr.heap.size ≤ b := hb
      have := HB.o.size
      have := R2.o.lt
      exact ⟨.inr (by omega), by omega⟩
   have hs5 := e2.row 6 _ rfl
   have E1 := zh e1
   have E2 := zh e2
   have E3 := zh e3
   have E4 := zh (fun g' (e : some (⟨g, 0, none⟩ : Addr) = some ⟨g', 0, none⟩) => show RowsIn (fun j b => (k + 1 ≤ j ∧ b < w.heap.size) ∨ w.heap.size + 2 ≤ b) (putR W4 g (k * 7) (.string kd.nm) (.bool kd.nl) (.int .i64 kd.k) (.int .i64 kd.wd) (.int .i64 kd.id) (.int .i64 kd.ix) (.slice p2 kd.kids.length c2)) g' (f.kids.map fdR) ∧ w.heap.size + 2 ≤ g' from by cases e; exact ⟨e4, hgn⟩)
   clear e1 e2 e3 e4
   refine hK _ _ (fun _ => hs5) ?_
   clear hK K hs5
   refine Late.done (by kernel_rfl) ?_ _
   go_wp2_with fail
   go_roundw
   case rel => exact ⟨k + 1, by omega, by go_num, E1, E2, E3, E4⟩
   case measure => simp [intOf]; omega
  ·have HL := zh (show k = f.kids.length by omega)
   have l0 := R1.o.row 0 _ rfl
   have l1 := R1.o.row 1 _ rfl
   have l2 := R1.o.row 2 _ rfl
   have l3 := R1.o.row 3 _ rfl
   have l4 := R1.o.row 4 _ rfl
   have l5 := R1.o.row 5 _ rfl
   have l6 := R1.o.row 6 _ rfl
   have m0 := R2.o.row 0 _ rfl
   have m1 := R2.o.row 1 _ rfl
   have m2 := R2.o.row 2 _ rfl
   have m3 := R2.o.row 3 _ rfl
   have m4 := R2.o.row 4 _ rfl
   have m5 := R2.o.row 5 _ rfl
   have m6 := R2.o.row 6 _ rfl
   have z0 := R2.o.frozen 0
   have z1 := R2.o.frozen 1
   have z2 := R2.o.frozen 2
   have z3 := R2.o.frozen 3
   have z4 := R2.o.frozen 4
   have z5 := R2.o.frozen 5
   have z6 := R2.o.frozen 6
   have hrl := R2.o.lt
   have HAT : Hid (M.At (fun b => w.heap.size + 2 ≤ b) wr (.many 7 (f.kids.map fdR)) (.slice q f.kids.length c)) := zh (by
    rcases HQ.o with h | ⟨g, hg⟩
    ·have h0 : f.kids = [] := List.eq_nil_of_length_eq_zero h
     rw [h0]
     exact M.At.of ⟨by simp, HRM.o.2⟩ (by simp only [List.map_nil, M.RowsAt])
    ·have h2 := HR.o g hg
     rw [hg]
     exact h2.1.list (by rw [List.length_map]) HRM.o h2.2 (fun j b hj hb => by have := HL.o; show w.heap.size + 2 ≤ b; omega))
   go_wp2_with fail
   refine cf_back (i := 2) rfl (put7_box rfl R2.o _ _ _ _ _ _ _) (fd_make (HAT.o.keep fun b hs hlt => ⟨put7_other (by have hs' : w.heap.size + 2 ≤ b := hs; omega) _ _ _ _ _ _ _, (by have hs' : w.heap.size + 2 ≤ b := hs; omega)⟩)) (put7_below HB.o (by omega) _ _ _ _ _ _ _) rfl
inductive FdFew : Fd → Prop
 | mk {f : Fd} : f.kids.length ≤ 100 → (∀ g ∈ f.kids, FdFew g) → FdFew f
theorem cf_calls {f : Fd} (h : FdFew f) : ∀ (w : World) (cs : List Value), M.AtL (fun _ => True) w (fdR f) cs → Calls Tryz.prog 67 #[.agg cs.toArray] w (CfPost w f) := by
 induction h with
 | mk hl _ ih => exact fun w cs hf => cf_step hf hl ih
end Go.Fld
namespace Go.Fld
open Go Go.RowKit Go.Proofs Go.ChangeShapes Go.WideShapes Go.ChangeAt Go.Shelf
inductive Vl where
 | mk (nl : Bool) (num : Int) (tx : ByteArray) (kids : List Vl)
namespace Vl
def nl : Vl → Bool | mk a _ _ _ => a
def num : Vl → Int | mk _ a _ _ => a
def tx : Vl → ByteArray | mk _ _ a _ => a
def kids : Vl → List Vl | mk _ _ _ a => a
end Vl
mutual
def vlR : Vl → List M
 | .mk nl num tx kids => [.one (.bool nl), .one (.int .i64 num), .one (.string tx), .many 4 (vlL kids)]
def vlL : List Vl → List (List M)
 | [] => []
 | v :: r => vlR v :: vlL r
end
theorem vlL_eq : ∀ l : List Vl, vlL l = l.map vlR
 | [] => rfl
 | v :: r => by rw [vlL, vlL_eq r]; rfl
theorem vlR_eq (v : Vl) : vlR v = [.one (.bool v.nl), .one (.int .i64 v.num), .one (.string v.tx), .many 4 (v.kids.map vlR)] := by
 cases v with
 | mk nl num tx kids => rw [vlR, vlL_eq]; rfl
def VAt (S : Nat → Prop) (w : World) (v : Vl) (cs : List Value) : Prop := M.AtL S w (vlR v) cs
theorem VAt.below {S : Nat → Prop} {w w' : World} {v : Vl} {cs : List Value} (h : VAt S w v cs) (hb : Below w.heap.size w w') : VAt S w' v cs := M.AtL.below hb h
theorem VAt.keep {S T : Nat → Prop} {w w' : World} (hk : ∀ b, S b → b < w.heap.size → w'.heap[b]? = w.heap[b]? ∧ T b) {v : Vl} {cs : List Value} (h : VAt S w v cs) : VAt T w' v cs := M.AtL.keep hk h
theorem VAt.mono {S T : Nat → Prop} {w : World} (hST : ∀ b, S b → T b) {v : Vl} {cs : List Value} (h : VAt S w v cs) : VAt T w v cs := M.AtL.mono hST h
theorem VAt.shape {S : Nat → Prop} {w : World} {v : Vl} {cs : List Value} (h : VAt S w v cs) : ∃ p cap, cs = [.bool v.nl, .int .i64 v.num, .string v.tx, .slice p v.kids.length cap] ∧ M.At S w (.many 4 (v.kids.map vlR)) (.slice p v.kids.length cap) := by
 unfold VAt at h
 rw [vlR_eq] at h
 obtain ⟨_, rfl, h1⟩ := M.AtL.one h
 obtain ⟨_, rfl, h2⟩ := M.AtL.one h1
 obtain ⟨_, rfl, h3⟩ := M.AtL.one h2
 obtain ⟨p, c, _, rfl, hb, h4⟩ := M.AtL.many h3
 cases M.AtL.end h4
 simp only [List.length_map] at hb ⊢
 exact ⟨p, c, rfl, hb⟩
theorem VAt.make {S : Nat → Prop} {w : World} (nl : Bool) (num : Int) (tx : ByteArray) (kids : List Vl) {p : Option Addr} {n cap : Nat} (h : M.At S w (.many 4 (kids.map vlR)) (.slice p n cap)) : VAt S w (.mk nl num tx kids) [.bool nl, .int .i64 num, .string tx, .slice p n cap] := by
 unfold VAt
 rw [vlR_eq]
 exact M.AtL.cons M.At.one (M.AtL.cons M.At.one (M.AtL.cons M.At.one (M.AtL.cons h M.AtL.nil)))
theorem VAt.flat {S : Nat → Prop} {w : World} (nl : Bool) (num : Int) (tx : ByteArray) : VAt S w (.mk nl num tx []) [.bool nl, .int .i64 num, .string tx, .slice none 0 0] := VAt.make nl num tx [] (M.At.nil S w 4)
end Go.Fld
