import Derived.Test.YtcllfbhlnjgomaaGreatDoorFn
set_option linter.unusedVariables false
set_option maxRecDepth 100000
/-!
  WHAT IS WRONG WITH A FIELD: the reference's CheckField; MayBe. No conditions.
-/
namespace Go.Fld
open Go Go.RowKit Go.Proofs Go.ChangeShapes Go.WideShapes Go.ChangeAt Go.Shelf

theorem fault_result32 {W : World} {tmps : Array Value} {rb : Nat} {e a : Int} {v : Value} (ht : tmps.getD 2 undef = .pointer (some ⟨rb, 0, none⟩)) (hw : RowAt W rb [.int .i64 e, v, .int .i64 a]) :
    (results Tryz.f32 tmps).run Tryz.prog W = .ok (.agg #[.int .i64 e, v, .int .i64 a]) W := by
  have c0 := hw 0 _ rfl
  have c1 := hw 1 _ rfl
  have c2 := hw 2 _ rfl
  rw [Array.getD_eq_getD_getElem?] at ht
  simp [results, Tryz.f32, go_sem, ht, c0, c1, c2]
theorem rfault_back {W : World} {w : World} {rb : Nat} (hw : w.heap.size ≤ rb) (hlt : rb < W.heap.size) {l : List Value} (hbx : BoxN W rb 60 l) (hl : l.length = 3) (hB : Below w.heap.size w W) {fe at' : Int} {v : Value} {d : Nat} (hv : WayV v d) (o : Obj) {tmps : Array Value} (ht : tmps.getD 2 undef = .pointer (some ⟨rb, 0, none⟩)) :
    bodyPost Tryz.prog Tryz.f32 (FaultPost w fe) Exit.ret { tmps := tmps, defers := [] } ((((W.setCell ⟨rb, 0, none⟩ (.int .i64 fe)).setCell ⟨rb, 1, none⟩ v).setCell ⟨rb, 2, none⟩ (.int .i64 at')).alloc o) := by
  have b := (((hbx.set 0 (.int .i64 fe)).set 1 v).set 2 (.int .i64 at')).alloc o
  have e : ((l.set 0 (.int .i64 fe)).set 1 v).set 2 (.int .i64 at') = [.int .i64 fe, v, .int .i64 at'] := by
    match l, hl with
    | [_, _, _], _ => rfl
  rw [e] at b
  have hs := hB.size
  exact bodyPost_ret (fault_result32 ht b.row) rfl ⟨d, v, at', rfl, hv, (((hB.setCell (p := ⟨rb, 0, none⟩) hw _).setCell (p := ⟨rb, 1, none⟩) hw _).setCell (p := ⟨rb, 2, none⟩) hw _).alloc (by simp; omega) _⟩

set_option maxHeartbeats 1000000 in
theorem rfield_calls {w : World} {f : Fd} {p : Option Addr} {cap : Nat} (hf : FdAt w f [.string f.nm, .bool f.nl, .int .i64 f.k, .int .i64 f.wd, .int .i64 f.id, .int .i64 f.ix, .slice p f.kids.length cap]) :
    Calls Tryz.prog 32 #[.agg #[.string f.nm, .bool f.nl, .int .i64 f.k, .int .i64 f.wd, .int .i64 f.id, .int .i64 f.ix, .slice p f.kids.length cap]] w (FaultPost w (fieldE f)) := by
  obtain ⟨p', cap', hcs, hk, hnm, ik, iw, ii, ix⟩ := hf.shape
  have HF := Lib.hid hf
  clear hf hk hcs
  go_enter Tryz.func32, Tryz.ntmps32
  go_wp2_with fail
  obtain ⟨cs, hcs⟩ : ∃ cs : List Value, cs = [.string f.nm, .bool f.nl, .int .i64 f.k, .int .i64 f.wd, .int .i64 f.id, .int .i64 f.ix, .slice p f.kids.length cap] := ⟨_, rfl⟩
  obtain ⟨W1, hW1⟩ : ∃ W1, W1 = ((w.alloc (.cells #[Value.string f.nm, Value.bool f.nl, Value.int .i64 f.k, Value.int .i64 f.wd, Value.int .i64 f.id, Value.int .i64 f.ix, Value.slice p f.kids.length cap] 28)).alloc (.cells #[Value.int .i64 0, Value.slice none 0 0, Value.int .i64 0] 60)).alloc (.cells #[Value.string f.nm, Value.bool f.nl, Value.int .i64 f.k, Value.int .i64 f.wd, Value.int .i64 f.id, Value.int .i64 f.ix, Value.slice p f.kids.length cap] 28) := ⟨_, rfl⟩
  have hB1 : Below w.heap.size w W1 := by rw [hW1]; exact (((Below.refl _ w).alloc (Nat.le_refl _) _).alloc (by simp) _).alloc (by simp; omega) _
  have bx : BoxN W1 (w.heap.size + 1) 60 [Value.int .i64 0, Value.slice none 0 0, Value.int .i64 0] := by
    rw [hW1]
    have := (BoxN.new (w.alloc (.cells #[Value.string f.nm, Value.bool f.nl, Value.int .i64 f.k, Value.int .i64 f.wd, Value.int .i64 f.id, Value.int .i64 f.ix, Value.slice p f.kids.length cap] 28)) 60 [Value.int .i64 0, Value.slice none 0 0, Value.int .i64 0]).alloc (.cells #[Value.string f.nm, Value.bool f.nl, Value.int .i64 f.k, Value.int .i64 f.wd, Value.int .i64 f.id, Value.int .i64 f.ix, Value.slice p f.kids.length cap] 28)
    rwa [World.size_alloc] at this
  have rw1 : RowAt W1 (w.heap.size + 1 + 1) [Value.string f.nm, Value.bool f.nl, Value.int .i64 f.k, Value.int .i64 f.wd, Value.int .i64 f.id, Value.int .i64 f.ix, Value.slice p f.kids.length cap] := by
    rw [hW1]
    have := (BoxN.new ((w.alloc (.cells #[Value.string f.nm, Value.bool f.nl, Value.int .i64 f.k, Value.int .i64 f.wd, Value.int .i64 f.id, Value.int .i64 f.ix, Value.slice p f.kids.length cap] 28)).alloc (.cells #[Value.int .i64 0, Value.slice none 0 0, Value.int .i64 0] 60)) 28 [Value.string f.nm, Value.bool f.nl, Value.int .i64 f.k, Value.int .i64 f.wd, Value.int .i64 f.id, Value.int .i64 f.ix, Value.slice p f.kids.length cap]).row
    simpa only [World.size_alloc] using this
  rw [← hW1]
  clear hW1 hcs
  refine (rcheck_calls (L := [f]) (NS := []) (FdsAt.one (HF.out.below hB1) rw1) ⟨none, 0, rfl, Nat.le_refl _, by decide, fun i hi => absurd hi (Nat.not_lt_zero _)⟩).mono ?_
  rintro e W2 ⟨d, path, at', rfl, ⟨q, c, rfl, hdc, hcm, hq0⟩, hb2⟩
  have he := schemaE_field f
  have e0 : schemaE [f] (sizesOf []) = fieldE f := he
  rw [e0]
  have bx2 := bx.below hb2 bx.lt
  have HBX := Lib.hid bx2
  have r0 := bx2.row 0 _ rfl
  have r1 := bx2.row 1 _ rfl
  have r2 := bx2.row 2 _ rfl
  have g0 := bx2.frozen 0
  have g1 := bx2.frozen 1
  have g2 := bx2.frozen 2
  have hlt := bx2.lt
  have HB2 := Lib.hid (hB1.trans (hb2.mono hB1.size))
  have HQ := Lib.hid hq0
  unfold maxLen at hcm
  generalize fieldE f = fe at *
  clear bx bx2 rw1 hB1 hb2 he e0 hq0 HF
  by_cases hd : 0 < d
  · obtain ⟨a, rfl⟩ : ∃ a, q = some a := by
      cases q with
      | none => have := HQ.out rfl; omega
      | some a => exact ⟨a, rfl⟩
    clear HQ
    go_wp2_with fail
    · exact rfault_back (by omega) hlt HBX.out rfl HB2.out (wayV_tail (d := d - 1) (by omega) (by omega) (fun h => by cases h)) _ rfl
    · exact rfault_back (by omega) hlt HBX.out rfl HB2.out (wayV_tail (d := d - 1) (by omega) (by omega) (fun h => by cases h)) _ rfl
  · obtain rfl : d = 0 := by omega
    go_wp2_with fail
    exact rfault_back (by omega) hlt HBX.out rfl HB2.out (wayV_tail (d := 0) (by omega) (by omega) (fun _ => rfl)) _ rfl

theorem rright_calls {w : World} {f : Fd} {p : Option Addr} {cap : Nat} (hf : FdAt w f [.string f.nm, .bool f.nl, .int .i64 f.k, .int .i64 f.wd, .int .i64 f.id, .int .i64 f.ix, .slice p f.kids.length cap]) :
    Calls Tryz.prog 22 #[.agg #[.string f.nm, .bool f.nl, .int .i64 f.k, .int .i64 f.wd, .int .i64 f.id, .int .i64 f.ix, .slice p f.kids.length cap]] w fun e w' => e = .returned (.bool (mayB f)) ∧ Below w.heap.size w w' := by
  have HF := Lib.hid hf
  obtain ⟨b, hb⟩ : ∃ b, b = mayB f := ⟨_, rfl⟩
  rw [← hb]
  unfold mayB at hb
  have HM := Lib.hid hb
  clear hf hb
  go_enter Tryz.func22, Tryz.ntmps22
  go_wp2_with fail
  have hB1 : Below w.heap.size w (w.alloc (.cells #[Value.string f.nm, Value.bool f.nl, Value.int .i64 f.k, Value.int .i64 f.wd, Value.int .i64 f.id, Value.int .i64 f.ix, Value.slice p f.kids.length cap] 28)) := (Below.refl _ w).alloc (Nat.le_refl _) _
  refine (rfield_calls (HF.out.below hB1)).mono ?_
  rintro e W2 ⟨d, path, at', rfl, ⟨q, c, rfl, -, -, -⟩, hb2⟩
  have HB := Lib.hid (hB1.trans (hb2.mono hB1.size))
  clear hB1 hb2
  generalize fieldE f = fe at *
  have hfd := field60 fe at' q d c W2
  go_wp2_with fail
  go_ret
  exact ⟨by rw [HM.out]; rfl, HB.out⟩

end Go.Fld
